/- What the functions that KindChecks reaches compute, each told by the calculus of the evaluator. -/
import Derived.Test.YtkefplbhpbdhdaaKa
import Derived.Test.YtkefplbhpbdhdaaDd
set_option linter.all false
/- Types, and the words of kinds. -/
namespace Go.Dev.KC
open Go Go.Dev Go.Dev.Wk

inductive Ty where
  | mk (k : Int) (l : List Ty)

mutual
def Ty.row : Ty → List V
  | .mk k l => [.s (.int .i64 k), .sl (Ty.rows l)]
def Ty.rows : List Ty → List (List V)
  | [] => []
  | t :: ts => t.row :: Ty.rows ts
end

mutual
def Ty.size : Ty → Nat
  | .mk _ l => 1 + Ty.sizes l
def Ty.sizes : List Ty → Nat
  | [] => 0
  | t :: ts => t.size + Ty.sizes ts
end

def Ty.t (t : Ty) : T := .agg (t.row.map .v)

theorem rows_map (l : List Ty) : Ty.rows l = l.map Ty.row := by
  induction l with
  | nil => rfl
  | cons a l ih => simp only [Ty.rows, ih, List.map_cons]

theorem rows_len (l : List Ty) : (Ty.rows l).length = l.length := by rw [rows_map, List.length_map]

theorem rows_at {l : List Ty} {j : Nat} (h : j < l.length) : (Ty.rows l)[j]? = some (l[j].row) := by
  rw [rows_map, List.getElem?_map, List.getElem?_eq_getElem h]; rfl

theorem size_mem {l : List Ty} {t : Ty} (h : t ∈ l) : t.size ≤ Ty.sizes l := by
  induction l with
  | nil => cases h
  | cons a l ih =>
    simp only [Ty.sizes]
    cases h with
    | head => omega
    | tail _ h => have := ih h; omega

theorem size_at {l : List Ty} {j : Nat} (h : j < l.length) : l[j].size ≤ Ty.sizes l := size_mem (List.getElem_mem h)

theorem len_size (l : List Ty) : l.length ≤ Ty.sizes l := by
  induction l with
  | nil => exact Nat.zero_le _
  | cons a l ih => cases a; simp only [Ty.sizes, Ty.size, List.length_cons]; omega

theorem allSz_rows (l : List Ty) : allSz 2 (Ty.rows l) = true := by
  rw [rows_map]; exact allSz_map (fun t => by cases t; rfl) l

theorem mk_at (t : Ty) : ∃ k l, t = .mk k l := by cases t; exact ⟨_, _, rfl⟩

/-! ### Words -/

def wordB (k : Int) : ByteArray :=
  if k = 1 then ⟨#[98, 111, 111, 108]⟩ else if k = 2 then ⟨#[105, 110, 116]⟩ else if k = 3 then ⟨#[116, 101, 120, 116]⟩ else if k = 4 then ⟨#[98, 121, 116, 101, 115]⟩
  else if k = 5 then ⟨#[112, 111, 105, 110, 116]⟩ else if k = 6 then ⟨#[112, 97, 105, 114]⟩ else if k = 7 then ⟨#[108, 105, 115, 116]⟩ else if k = 9 then ⟨#[111, 112, 116, 105, 111, 110]⟩ else ⟨#[]⟩

theorem kinds (k : Int) : k = 1 ∨ k = 2 ∨ k = 3 ∨ k = 4 ∨ k = 5 ∨ k = 6 ∨ k = 7 ∨ k = 9 ∨ (¬ k = 1 ∧ ¬ k = 2 ∧ ¬ k = 3 ∧ ¬ k = 4 ∧ ¬ k = 5 ∧ ¬ k = 6 ∧ ¬ k = 7 ∧ ¬ k = 9) := by omega

theorem f38_ok (k : Int) : Ev E false 38 [tI k] [] (tS (wordB k)) [] := by
  refine ev_of_wp (d := d38) rfl rfl (Nat.le_of_ble_eq_true rfl) ?_
  rcases kinds k with rfl | rfl | rfl | rfl | rfl | rfl | rfl | rfl | ⟨h1, h2, h3, h4, h5, h6, h7, h9⟩
  all_goals first
    | (simp only [go_sem, ↓reduceIte, Nat.reduceLT, Nat.reduceEqDiff, Nat.reduceAdd, Nat.reduceMul, Nat.reduceLeDiff, Nat.reduceBEq, Nat.reduceSub, Int.reduceLT, Int.reduceLE, Int.reduceEq, Int.reduceToNat, reduceCtorEq, Nat.lt_irrefl, Nat.le_refl, d38, c38]; rfl)
    | simp only [go_sem, ↓reduceIte, Nat.reduceLT, Nat.reduceEqDiff, Nat.reduceAdd, Nat.reduceMul, Nat.reduceLeDiff, Nat.reduceBEq, Nat.reduceSub, Int.reduceLT, Int.reduceLE, Int.reduceEq, Int.reduceToNat, reduceCtorEq, Nat.lt_irrefl, Nat.le_refl, d38, c38, wordB, *]

def cntN (k : Int) : Nat := if k = 6 then 2 else if k = 7 then 1 else if k = 9 then 1 else 0
theorem f39_ok (k : Int) : Ev E false 39 [tI k] [] (tI (cntN k)) [] := by
  refine ev_of_wp (d := d39) rfl rfl (Nat.le_of_ble_eq_true rfl) ?_
  by_cases h6 : k = 6
  · subst h6; simp only [go_sem, ↓reduceIte, Nat.reduceLT, Nat.reduceEqDiff, Nat.reduceAdd, Nat.reduceMul, Nat.reduceLeDiff, Nat.reduceBEq, Nat.reduceSub, Int.reduceLT, Int.reduceLE, Int.reduceEq, Int.reduceToNat, reduceCtorEq, Nat.lt_irrefl, Nat.le_refl, d39, c39]; rfl
  by_cases h7 : k = 7
  · subst h7; simp only [go_sem, ↓reduceIte, Nat.reduceLT, Nat.reduceEqDiff, Nat.reduceAdd, Nat.reduceMul, Nat.reduceLeDiff, Nat.reduceBEq, Nat.reduceSub, Int.reduceLT, Int.reduceLE, Int.reduceEq, Int.reduceToNat, reduceCtorEq, Nat.lt_irrefl, Nat.le_refl, d39, c39]; rfl
  by_cases h9 : k = 9
  · subst h9; simp only [go_sem, ↓reduceIte, Nat.reduceLT, Nat.reduceEqDiff, Nat.reduceAdd, Nat.reduceMul, Nat.reduceLeDiff, Nat.reduceBEq, Nat.reduceSub, Int.reduceLT, Int.reduceLE, Int.reduceEq, Int.reduceToNat, reduceCtorEq, Nat.lt_irrefl, Nat.le_refl, d39, c39]; rfl
  simp only [go_sem, ↓reduceIte, Nat.reduceLT, Nat.reduceEqDiff, Nat.reduceAdd, Nat.reduceMul, Nat.reduceLeDiff, Nat.reduceBEq, Nat.reduceSub, Int.reduceLT, Int.reduceLE, Int.reduceEq, Int.reduceToNat, reduceCtorEq, Nat.lt_irrefl, Nat.le_refl, d39, c39, h6, h7, h9, cntN]; rfl

/-- The words: kind, text, how many. -/
def words : List (Int × ByteArray × Int) :=
  [(1, ⟨#[98, 111, 111, 108]⟩, 0), (2, ⟨#[105, 110, 116]⟩, 0), (3, ⟨#[116, 101, 120, 116]⟩, 0), (4, ⟨#[98, 121, 116, 101, 115]⟩, 0), (5, ⟨#[112, 111, 105, 110, 116]⟩, 0), (6, ⟨#[112, 97, 105, 114]⟩, 2), (7, ⟨#[108, 105, 115, 116]⟩, 1), (9, ⟨#[111, 112, 116, 105, 111, 110]⟩, 1)]
def wrow (w : Int × ByteArray × Int) : List V := [.s (.int .i64 w.1), .s (.string w.2.1), .s (.int .i64 w.2.2)]

theorem f67_ok : Ev E false 67 [] [] (.one (.v (.sl (words.map wrow)))) [] := ⟨20, by kernel_rfl⟩

theorem f72_ok (w : Int × ByteArray × Int) (k : Int) (r : List (List V)) (ty : Nat) : Ev E false 72 [.agg ((wrow w).map .v), .one (.ref (.fo 0) 0)] [⟨0, ty, [.v (.s (.int .i64 k)), .v (.sl r)]⟩] (tB (decide (w.1 = k))) [⟨0, ty, [.v (.s (.int .i64 k)), .v (.sl r)]⟩] := by
  refine ev_of_wp (d := d72) rfl rfl (Nat.le_of_ble_eq_true rfl) ?_
  simp only [go_sem, ↓reduceIte, Nat.reduceLT, Nat.reduceEqDiff, Nat.reduceAdd, Nat.reduceMul, Nat.reduceLeDiff, Nat.reduceBEq, Nat.reduceSub, Int.reduceLT, Int.reduceLE, Int.reduceEq, Int.reduceToNat, reduceCtorEq, Nat.lt_irrefl, Nat.le_refl, d72, c72, wrow]

def idxW (k : Int) (l : List (Int × ByteArray × Int)) : Option Nat := l.findIdx? fun w => decide (w.1 = k)
def idxI : Option Nat → Int
  | some i => i
  | none => -1

theorem f71_ok (k : Int) (r : List (List V)) (ty : Nat) (ws : List (Int × ByteArray × Int)) (hl : ws.length < 100000) : Ev E false 71 [.one (.v (.sl (ws.map wrow))), .one (.fn (.func 72) [] [.ref (.fo 0) 0])] [⟨0, ty, [.v (.s (.int .i64 k)), .v (.sl r)]⟩] (tI (idxI (idxW k ws))) [⟨0, ty, [.v (.s (.int .i64 k)), .v (.sl r)]⟩] := by
  refine ev_of_wp (d := d71) rfl rfl (Nat.le_of_ble_eq_true rfl) ?_
  simp only [go_sem, ↓reduceIte, Nat.reduceLT, Nat.reduceEqDiff, Nat.reduceAdd, Nat.reduceMul, Nat.reduceLeDiff, Nat.reduceBEq, Nat.reduceSub, Int.reduceLT, Int.reduceLE, Int.reduceEq, Int.reduceToNat, reduceCtorEq, Nat.lt_irrefl, Nat.le_refl, d71, c71]
  refine loop_ind (I := fun (j : Nat) tm bx fo => j ≤ ws.length ∧ fo = [⟨0, ty, [.v (.s (.int .i64 k)), .v (.sl r)]⟩] ∧ tm 0 = .one (.v (.sl (ws.map wrow))) ∧ tm 1 = .one (.fn (.func 72) [] [.ref (.fo 0) 0]) ∧ tm 7 = tI ws.length ∧ tm 8 = tI j ∧
      ∀ i, (h : i < j) → (h2 : i < ws.length) → ws[i].1 ≠ k) (μ := fun j => ws.length - j) ?_ 0 _ _ _ ?_
  · rintro j tm bx fo ⟨hj, rfl, h0, h1, h7, h8, hn⟩ IH
    by_cases hjl : j < ws.length
    · have e3 : (ws.map wrow)[j]? = some (wrow ws[j]) := by rw [List.getElem?_map, List.getElem?_eq_getElem hjl]; rfl
      obtain ⟨⟨w, s, a⟩, he⟩ : ∃ w, ws[j] = w := ⟨_, rfl⟩
      rw [he] at e3
      simp only [go_sem, ↓reduceIte, Nat.reduceLT, Nat.reduceEqDiff, Nat.reduceAdd, Nat.reduceMul, Nat.reduceLeDiff, Nat.reduceBEq, Nat.reduceSub, Int.reduceLT, Int.reduceLE, Int.reduceEq, Int.reduceToNat, reduceCtorEq, Nat.lt_irrefl, Nat.le_refl, h0, h1, h7, h8, hjl, e3, wrow]
      refine callK (by rfl) ?_
      simp only [go_sem, ↓reduceIte, Nat.reduceLT, Nat.reduceEqDiff, Nat.reduceAdd, Nat.reduceMul, Nat.reduceLeDiff, Nat.reduceBEq, Nat.reduceSub, Int.reduceLT, Int.reduceLE, Int.reduceEq, Int.reduceToNat, reduceCtorEq, Nat.lt_irrefl, Nat.le_refl, h0, h1, h7, h8, hjl]
      refine callE (f72_ok (w, s, a) k r ty) rfl ?_
      simp only [go_sem, ↓reduceIte, Nat.reduceLT, Nat.reduceEqDiff, Nat.reduceAdd, Nat.reduceMul, Nat.reduceLeDiff, Nat.reduceBEq, Nat.reduceSub, Int.reduceLT, Int.reduceLE, Int.reduceEq, Int.reduceToNat, reduceCtorEq, Nat.lt_irrefl, Nat.le_refl, h0, h1, h7, h8, hjl]
      by_cases hk : w = k
      · simp only [go_sem, ↓reduceIte, Nat.reduceLT, Nat.reduceEqDiff, Nat.reduceAdd, Nat.reduceMul, Nat.reduceLeDiff, Nat.reduceBEq, Nat.reduceSub, Int.reduceLT, Int.reduceLE, Int.reduceEq, Int.reduceToNat, reduceCtorEq, Nat.lt_irrefl, Nat.le_refl, h0, h1, h7, h8, hjl, hk]
        have : idxW k ws = some j := find_at hjl (by rw [he]; simp [hk]) (fun i hi => by simp [hn i hi (by omega)])
        rw [this]; rfl
      · simp only [go_sem, ↓reduceIte, Nat.reduceLT, Nat.reduceEqDiff, Nat.reduceAdd, Nat.reduceMul, Nat.reduceLeDiff, Nat.reduceBEq, Nat.reduceSub, Int.reduceLT, Int.reduceLE, Int.reduceEq, Int.reduceToNat, reduceCtorEq, Nat.lt_irrefl, Nat.le_refl, h0, h1, h7, h8, hjl, hk]
        refine IH (j + 1) _ _ _ (by omega) ⟨by omega, rfl, h0, h1, h7, ?_, ?_⟩
        · show T.one (C.v (V.s (Value.int IntKind.i64 (IntKind.i64.wrap (j + 1))))) = _
          rw [wrap_succ (by omega)]; rfl
        · intro i h h2
          by_cases hij : i = j
          · subst hij; rw [he]; exact hk
          · exact hn i (by omega) h2
    · simp only [go_sem, ↓reduceIte, Nat.reduceLT, Nat.reduceEqDiff, Nat.reduceAdd, Nat.reduceMul, Nat.reduceLeDiff, Nat.reduceBEq, Nat.reduceSub, Int.reduceLT, Int.reduceLE, Int.reduceEq, Int.reduceToNat, reduceCtorEq, Nat.lt_irrefl, Nat.le_refl, h0, h1, h7, h8, hjl]
      have : idxW k ws = none := find_none (fun i hi => by simp [hn i (by omega) hi])
      rw [this]; rfl
  · refine ⟨Nat.zero_le _, rfl, rfl, rfl, ?_, rfl, fun i h => absurd h (Nat.not_lt_zero _)⟩
    show T.one (C.v (V.s (Value.int IntKind.i64 ((ws.map wrow).length : Nat)))) = _
    rw [List.length_map]; rfl

theorem idx_known {k : Int} (h : ¬ wordB k = ⟨#[]⟩) : ∃ i w, idxW k words = some i ∧ words[i]? = some w ∧ w.2.2 = cntN k ∧ w.1 = k ∧ w.2.1 = wordB k ∧ i < 8 := by
  rcases kinds k with rfl | rfl | rfl | rfl | rfl | rfl | rfl | rfl | ⟨h1, h2, h3, h4, h5, h6, h7, h9⟩
  · exact ⟨0, _, rfl, rfl, rfl, rfl, rfl, by omega⟩
  · exact ⟨1, _, rfl, rfl, rfl, rfl, rfl, by omega⟩
  · exact ⟨2, _, rfl, rfl, rfl, rfl, rfl, by omega⟩
  · exact ⟨3, _, rfl, rfl, rfl, rfl, rfl, by omega⟩
  · exact ⟨4, _, rfl, rfl, rfl, rfl, rfl, by omega⟩
  · exact ⟨5, _, rfl, rfl, rfl, rfl, rfl, by omega⟩
  · exact ⟨6, _, rfl, rfl, rfl, rfl, rfl, by omega⟩
  · exact ⟨7, _, rfl, rfl, rfl, rfl, rfl, by omega⟩
  · exact absurd (by simp only [wordB, h1, h2, h3, h4, h5, h6, h7, h9, if_false]) h

theorem idx_unknown {k : Int} (h : wordB k = ⟨#[]⟩) : idxW k words = none := by
  rcases kinds k with rfl | rfl | rfl | rfl | rfl | rfl | rfl | rfl | ⟨h1, h2, h3, h4, h5, h6, h7, h9⟩
  · revert h; decide
  · revert h; decide
  · revert h; decide
  · revert h; decide
  · revert h; decide
  · revert h; decide
  · revert h; decide
  · revert h; decide
  · simp [idxW, words, List.findIdx?_cons, Ne.symm h1, Ne.symm h2, Ne.symm h3, Ne.symm h4, Ne.symm h5, Ne.symm h6, Ne.symm h7, Ne.symm h9]

/-! ### Right types -/

mutual
def Ty.ok : Nat → Ty → Bool
  | 0, _ => false
  | d + 1, .mk k l => !decide (wordB k = ⟨#[]⟩) && decide (l.length = cntN k) && Ty.oks d l
def Ty.oks : Nat → List Ty → Bool
  | _, [] => true
  | d, t :: ts => Ty.ok d t && Ty.oks d ts
end

theorem oks_all (d : Nat) (l : List Ty) : Ty.oks d l = l.all (Ty.ok d) := by
  induction l with
  | nil => rfl
  | cons a l ih => simp only [Ty.oks, ih, List.all_cons]

end Go.Dev.KC

/- Which types are right. -/
namespace Go.Dev.KC
open Go Go.Dev Go.Dev.Wk

theorem f74_ok {d : Nat} {t : Ty} (hd : d < 100) (h : Ev E false 46 [t.t, tI d] [] (tB (t.ok d)) []) : Ev E false 74 [t.t, .one (.ref (.fo 0) 0)] [⟨0, 3, [.v (.s (.int .i64 ((d + 1 : Nat) : Int)))]⟩] (tB (!t.ok d)) [⟨0, 3, [.v (.s (.int .i64 ((d + 1 : Nat) : Int)))]⟩] := by
  refine ev_of_wp (d := d74) rfl rfl (Nat.le_of_ble_eq_true rfl) ?_
  obtain ⟨k, l, rfl⟩ := mk_at t
  simp only [go_sem, ↓reduceIte, Nat.reduceLT, Nat.reduceEqDiff, Nat.reduceAdd, Nat.reduceMul, Nat.reduceLeDiff, Nat.reduceBEq, Nat.reduceSub, Int.reduceLT, Int.reduceLE, Int.reduceEq, Int.reduceToNat, reduceCtorEq, Nat.lt_irrefl, Nat.le_refl, d74, c74, Ty.t, Ty.row, wrap_pred (show d < 9223372036854775807 by omega)]
  refine call0 (h) (by rfl) (by rfl) (by rfl) (by rfl) ?_
  simp only [go_sem, ↓reduceIte, Nat.reduceLT, Nat.reduceEqDiff, Nat.reduceAdd, Nat.reduceMul, Nat.reduceLeDiff, Nat.reduceBEq, Nat.reduceSub, Int.reduceLT, Int.reduceLE, Int.reduceEq, Int.reduceToNat, reduceCtorEq, Nat.lt_irrefl, Nat.le_refl]

def idxT (d : Nat) (l : List Ty) : Option Nat := l.findIdx? fun t => !t.ok d

theorem f92_ok {d : Nat} {l : List Ty} (hl : l.length < 100000) (hd : d < 100) (h : ∀ t ∈ l, Ev E false 46 [t.t, tI d] [] (tB (t.ok d)) []) : Ev E false 92 [.one (.v (.sl (Ty.rows l))), .one (.fn (.func 74) [] [.ref (.fo 0) 0])] [⟨0, 3, [.v (.s (.int .i64 ((d + 1 : Nat) : Int)))]⟩] (tI (idxI (idxT d l))) [⟨0, 3, [.v (.s (.int .i64 ((d + 1 : Nat) : Int)))]⟩] := by
  refine ev_of_wp (d := d92) rfl rfl (Nat.le_of_ble_eq_true rfl) ?_
  simp only [go_sem, ↓reduceIte, Nat.reduceLT, Nat.reduceEqDiff, Nat.reduceAdd, Nat.reduceMul, Nat.reduceLeDiff, Nat.reduceBEq, Nat.reduceSub, Int.reduceLT, Int.reduceLE, Int.reduceEq, Int.reduceToNat, reduceCtorEq, Nat.lt_irrefl, Nat.le_refl, d92, c92]
  refine loop_ind (I := fun (j : Nat) tm bx fo => j ≤ l.length ∧ fo = [⟨0, 3, [.v (.s (.int .i64 ((d + 1 : Nat) : Int)))]⟩] ∧ tm 0 = .one (.v (.sl (Ty.rows l))) ∧ tm 1 = .one (.fn (.func 74) [] [.ref (.fo 0) 0]) ∧ tm 7 = tI l.length ∧ tm 8 = tI j ∧
      ∀ i, (h : i < j) → (h2 : i < l.length) → l[i].ok d = true) (μ := fun j => l.length - j) ?_ 0 _ _ _ ?_
  · rintro j tm bx fo ⟨hj, rfl, h0, h1, h7, h8, hn⟩ IH
    by_cases hjl : j < l.length
    · have e3 := rows_at hjl
      have e5 := h _ (List.getElem_mem hjl)
      obtain ⟨k, l', he⟩ := mk_at l[j]
      rw [he] at e3 e5
      simp only [go_sem, ↓reduceIte, Nat.reduceLT, Nat.reduceEqDiff, Nat.reduceAdd, Nat.reduceMul, Nat.reduceLeDiff, Nat.reduceBEq, Nat.reduceSub, Int.reduceLT, Int.reduceLE, Int.reduceEq, Int.reduceToNat, reduceCtorEq, Nat.lt_irrefl, Nat.le_refl, h0, h1, h7, h8, hjl, e3, Ty.row]
      refine callK (by rfl) ?_
      simp only [go_sem, ↓reduceIte, Nat.reduceLT, Nat.reduceEqDiff, Nat.reduceAdd, Nat.reduceMul, Nat.reduceLeDiff, Nat.reduceBEq, Nat.reduceSub, Int.reduceLT, Int.reduceLE, Int.reduceEq, Int.reduceToNat, reduceCtorEq, Nat.lt_irrefl, Nat.le_refl, h0, h1, h7, h8, hjl]
      refine callE ((f74_ok hd e5)) (by rfl) ?_
      simp only [go_sem, ↓reduceIte, Nat.reduceLT, Nat.reduceEqDiff, Nat.reduceAdd, Nat.reduceMul, Nat.reduceLeDiff, Nat.reduceBEq, Nat.reduceSub, Int.reduceLT, Int.reduceLE, Int.reduceEq, Int.reduceToNat, reduceCtorEq, Nat.lt_irrefl, Nat.le_refl, h0, h1, h7, h8, hjl]
      cases hk : (Ty.mk k l').ok d with
      | false =>
        simp only [go_sem, ↓reduceIte, Nat.reduceLT, Nat.reduceEqDiff, Nat.reduceAdd, Nat.reduceMul, Nat.reduceLeDiff, Nat.reduceBEq, Nat.reduceSub, Int.reduceLT, Int.reduceLE, Int.reduceEq, Int.reduceToNat, reduceCtorEq, Nat.lt_irrefl, Nat.le_refl, h0, h1, h7, h8, hjl, hk]
        have : idxT d l = some j := find_at hjl (by rw [he]; simp [hk]) (fun i hi => by simp [hn i hi (by omega)])
        rw [this]; rfl
      | true =>
        simp only [go_sem, ↓reduceIte, Nat.reduceLT, Nat.reduceEqDiff, Nat.reduceAdd, Nat.reduceMul, Nat.reduceLeDiff, Nat.reduceBEq, Nat.reduceSub, Int.reduceLT, Int.reduceLE, Int.reduceEq, Int.reduceToNat, reduceCtorEq, Nat.lt_irrefl, Nat.le_refl, h0, h1, h7, h8, hjl, hk]
        refine IH (j + 1) _ _ _ (by omega) ⟨by omega, rfl, h0, h1, h7, ?_, ?_⟩
        · show T.one (C.v (V.s (Value.int IntKind.i64 (IntKind.i64.wrap (j + 1))))) = _
          rw [wrap_succ (by omega)]; rfl
        · intro i h h2
          by_cases hij : i = j
          · subst hij; rw [he]; exact hk
          · exact hn i (by omega) h2
    · simp only [go_sem, ↓reduceIte, Nat.reduceLT, Nat.reduceEqDiff, Nat.reduceAdd, Nat.reduceMul, Nat.reduceLeDiff, Nat.reduceBEq, Nat.reduceSub, Int.reduceLT, Int.reduceLE, Int.reduceEq, Int.reduceToNat, reduceCtorEq, Nat.lt_irrefl, Nat.le_refl, h0, h1, h7, h8, hjl]
      have : idxT d l = none := find_none (fun i hi => by simp [hn i (by omega) hi])
      rw [this]; rfl
  · refine ⟨Nat.zero_le _, rfl, rfl, rfl, ?_, rfl, fun i h => absurd h (Nat.not_lt_zero _)⟩
    show T.one (C.v (V.s (Value.int IntKind.i64 ((Ty.rows l).length : Nat)))) = _
    rw [rows_len]; rfl

theorem idxT_some {d : Nat} {l : List Ty} {i : Nat} (h : idxT d l = some i) : Ty.oks d l = false := by
  rw [oks_all]
  obtain ⟨hi, hp, _⟩ := List.findIdx?_eq_some_iff_getElem.1 h
  exact all_false hi (by simpa using hp)

theorem idxT_none {d : Nat} {l : List Ty} (h : idxT d l = none) : Ty.oks d l = true := by
  rw [oks_all, List.all_eq_true]
  intro t ht
  have := List.findIdx?_eq_none_iff.1 h t ht
  simpa using this

theorem f73_ok {d : Nat} {l : List Ty} (hl : l.length < 100000) (hd : d < 100) (h : ∀ t ∈ l, Ev E false 46 [t.t, tI d] [] (tB (t.ok d)) []) : Ev E false 73 [.one (.v (.sl (Ty.rows l))), .one (.fn (.func 74) [] [.ref (.fo 0) 0])] [⟨0, 3, [.v (.s (.int .i64 ((d + 1 : Nat) : Int)))]⟩] (tB (!Ty.oks d l)) [⟨0, 3, [.v (.s (.int .i64 ((d + 1 : Nat) : Int)))]⟩] := by
  refine ev_of_wp (d := d73) rfl rfl (Nat.le_of_ble_eq_true rfl) ?_
  simp only [go_sem, ↓reduceIte, Nat.reduceLT, Nat.reduceEqDiff, Nat.reduceAdd, Nat.reduceMul, Nat.reduceLeDiff, Nat.reduceBEq, Nat.reduceSub, Int.reduceLT, Int.reduceLE, Int.reduceEq, Int.reduceToNat, reduceCtorEq, Nat.lt_irrefl, Nat.le_refl, d73, c73]
  refine callK (by rfl) ?_
  simp only [go_sem, ↓reduceIte, Nat.reduceLT, Nat.reduceEqDiff, Nat.reduceAdd, Nat.reduceMul, Nat.reduceLeDiff, Nat.reduceBEq, Nat.reduceSub, Int.reduceLT, Int.reduceLE, Int.reduceEq, Int.reduceToNat, reduceCtorEq, Nat.lt_irrefl, Nat.le_refl]
  refine callE ((f92_ok hl hd h)) (by rfl) ?_
  cases hi : idxT d l with
  | none => simp only [go_sem, ↓reduceIte, Nat.reduceLT, Nat.reduceEqDiff, Nat.reduceAdd, Nat.reduceMul, Nat.reduceLeDiff, Nat.reduceBEq, Nat.reduceSub, Int.reduceLT, Int.reduceLE, Int.reduceEq, Int.reduceToNat, reduceCtorEq, Nat.lt_irrefl, Nat.le_refl, hi, idxI, idxT_none hi]
  | some i => simp only [go_sem, ↓reduceIte, Nat.reduceLT, Nat.reduceEqDiff, Nat.reduceAdd, Nat.reduceMul, Nat.reduceLeDiff, Nat.reduceBEq, Nat.reduceSub, Int.reduceLT, Int.reduceLE, Int.reduceEq, Int.reduceToNat, reduceCtorEq, Nat.lt_irrefl, Nat.le_refl, hi, idxI, idxT_some hi]

theorem f46_ok (N : Nat) : ∀ (t : Ty) (d : Nat), t.size ≤ N → N < 100000 → d < 100 → Ev E false 46 [t.t, tI d] [] (tB (t.ok d)) [] := by
  induction N with
  | zero => intro t d ht; obtain ⟨k, l, rfl⟩ := mk_at t; simp only [Ty.size] at ht; omega
  | succ N ih =>
  intro t d ht hN hd
  obtain ⟨k, l, rfl⟩ := mk_at t
  simp only [Ty.size] at ht
  have hl := len_size l
  refine ev_of_wp (d := d46) rfl rfl (Nat.le_of_ble_eq_true rfl) ?_
  simp only [go_sem, ↓reduceIte, Nat.reduceLT, Nat.reduceEqDiff, Nat.reduceAdd, Nat.reduceMul, Nat.reduceLeDiff, Nat.reduceBEq, Nat.reduceSub, Int.reduceLT, Int.reduceLE, Int.reduceEq, Int.reduceToNat, reduceCtorEq, Nat.lt_irrefl, Nat.le_refl, d46, c46, Ty.t, Ty.row]
  refine call0 (f67_ok) (by rfl) (by rfl) (by rfl) (by rfl) ?_
  simp only [go_sem, ↓reduceIte, Nat.reduceLT, Nat.reduceEqDiff, Nat.reduceAdd, Nat.reduceMul, Nat.reduceLeDiff, Nat.reduceBEq, Nat.reduceSub, Int.reduceLT, Int.reduceLE, Int.reduceEq, Int.reduceToNat, reduceCtorEq, Nat.lt_irrefl, Nat.le_refl]
  refine callK (by rfl) ?_
  simp only [go_sem, ↓reduceIte, Nat.reduceLT, Nat.reduceEqDiff, Nat.reduceAdd, Nat.reduceMul, Nat.reduceLeDiff, Nat.reduceBEq, Nat.reduceSub, Int.reduceLT, Int.reduceLE, Int.reduceEq, Int.reduceToNat, reduceCtorEq, Nat.lt_irrefl, Nat.le_refl]
  refine callE ((f71_ok k (Ty.rows l) 24 words (by decide))) (by rfl) ?_
  by_cases hw : wordB k = ⟨#[]⟩
  · have e := idx_unknown hw
    have e2 : Ty.ok d (.mk k l) = false := by cases d <;> simp [Ty.ok, hw]
    simp only [go_sem, ↓reduceIte, Nat.reduceLT, Nat.reduceEqDiff, Nat.reduceAdd, Nat.reduceMul, Nat.reduceLeDiff, Nat.reduceBEq, Nat.reduceSub, Int.reduceLT, Int.reduceLE, Int.reduceEq, Int.reduceToNat, reduceCtorEq, Nat.lt_irrefl, Nat.le_refl, e, idxI, e2]
  · obtain ⟨i, w, e1, e2, e3, e4, e5, e6⟩ := idx_known hw
    cases d with
    | zero => simp only [go_sem, ↓reduceIte, Nat.reduceLT, Nat.reduceEqDiff, Nat.reduceAdd, Nat.reduceMul, Nat.reduceLeDiff, Nat.reduceBEq, Nat.reduceSub, Int.reduceLT, Int.reduceLE, Int.reduceEq, Int.reduceToNat, reduceCtorEq, Nat.lt_irrefl, Nat.le_refl, e1, idxI, ncast0, Ty.ok]
    | succ d =>
      have e7 : (((d + 1 : Nat) : Int) < 1) = False := by simp; omega
      have e8 : (words.map wrow)[i]? = some (wrow w) := by rw [List.getElem?_map, e2]; rfl
      simp only [go_sem, ↓reduceIte, Nat.reduceLT, Nat.reduceEqDiff, Nat.reduceAdd, Nat.reduceMul, Nat.reduceLeDiff, Nat.reduceBEq, Nat.reduceSub, Int.reduceLT, Int.reduceLE, Int.reduceEq, Int.reduceToNat, reduceCtorEq, Nat.lt_irrefl, Nat.le_refl, e1, idxI, e7]
      refine call0 (f67_ok) (by rfl) (by rfl) (by rfl) (by rfl) ?_
      simp only [go_sem, ↓reduceIte, Nat.reduceLT, Nat.reduceEqDiff, Nat.reduceAdd, Nat.reduceMul, Nat.reduceLeDiff, Nat.reduceBEq, Nat.reduceSub, Int.reduceLT, Int.reduceLE, Int.reduceEq, Int.reduceToNat, reduceCtorEq, Nat.lt_irrefl, Nat.le_refl, e8, wrow, e3, rows_len]
      by_cases hc : l.length = cntN k
      · simp only [go_sem, ↓reduceIte, Nat.reduceLT, Nat.reduceEqDiff, Nat.reduceAdd, Nat.reduceMul, Nat.reduceLeDiff, Nat.reduceBEq, Nat.reduceSub, Int.reduceLT, Int.reduceLE, Int.reduceEq, Int.reduceToNat, reduceCtorEq, Nat.lt_irrefl, Nat.le_refl, hc]
        refine callK (by rfl) ?_
        simp only [go_sem, ↓reduceIte, Nat.reduceLT, Nat.reduceEqDiff, Nat.reduceAdd, Nat.reduceMul, Nat.reduceLeDiff, Nat.reduceBEq, Nat.reduceSub, Int.reduceLT, Int.reduceLE, Int.reduceEq, Int.reduceToNat, reduceCtorEq, Nat.lt_irrefl, Nat.le_refl]
        refine callE ((f73_ok (by omega) (show d < 100 by omega) (fun t ht' => ih t d (by have := size_mem ht'; omega) (by omega) (by omega)))) (by rfl) ?_
        simp only [go_sem, ↓reduceIte, Nat.reduceLT, Nat.reduceEqDiff, Nat.reduceAdd, Nat.reduceMul, Nat.reduceLeDiff, Nat.reduceBEq, Nat.reduceSub, Int.reduceLT, Int.reduceLE, Int.reduceEq, Int.reduceToNat, reduceCtorEq, Nat.lt_irrefl, Nat.le_refl, Ty.ok, hw, hc, Bool.not_not]
      · simp only [go_sem, ↓reduceIte, Nat.reduceLT, Nat.reduceEqDiff, Nat.reduceAdd, Nat.reduceMul, Nat.reduceLeDiff, Nat.reduceBEq, Nat.reduceSub, Int.reduceLT, Int.reduceLE, Int.reduceEq, Int.reduceToNat, reduceCtorEq, Nat.lt_irrefl, Nat.le_refl, hc, Ty.ok, hw]

theorem f17_ok (t : Ty) (ht : t.size < 100000) : Ev E false 17 [t.t] [] (tI (if t.ok 6 then 0 else 20)) [] := by
  refine ev_of_wp (d := d17) rfl rfl (Nat.le_of_ble_eq_true rfl) ?_
  have h := f46_ok t.size t 6 (Nat.le_refl _) ht (by omega)
  obtain ⟨k, l, rfl⟩ := mk_at t
  simp only [go_sem, ↓reduceIte, Nat.reduceLT, Nat.reduceEqDiff, Nat.reduceAdd, Nat.reduceMul, Nat.reduceLeDiff, Nat.reduceBEq, Nat.reduceSub, Int.reduceLT, Int.reduceLE, Int.reduceEq, Int.reduceToNat, reduceCtorEq, Nat.lt_irrefl, Nat.le_refl, d17, c17, Ty.t, Ty.row]
  refine call0 (h) (by rfl) (by rfl) (by rfl) (by rfl) ?_
  cases h6 : (Ty.mk k l).ok 6 with
  | true => simp only [go_sem, ↓reduceIte, Nat.reduceLT, Nat.reduceEqDiff, Nat.reduceAdd, Nat.reduceMul, Nat.reduceLeDiff, Nat.reduceBEq, Nat.reduceSub, Int.reduceLT, Int.reduceLE, Int.reduceEq, Int.reduceToNat, reduceCtorEq, Nat.lt_irrefl, Nat.le_refl, h6]
  | false => simp only [go_sem, ↓reduceIte, Nat.reduceLT, Nat.reduceEqDiff, Nat.reduceAdd, Nat.reduceMul, Nat.reduceLeDiff, Nat.reduceBEq, Nat.reduceSub, Int.reduceLT, Int.reduceLE, Int.reduceEq, Int.reduceToNat, reduceCtorEq, Nat.lt_irrefl, Nat.le_refl, h6, Bool.false_eq_true]

theorem f10_ok (N : Nat) : ∀ (t : Ty) (d : Nat), t.size ≤ N → N < 100000 → d < 100 → Ev E false 10 [t.t, tI d] [] (tB (t.ok d)) [] := by
  induction N with
  | zero => intro t d ht; obtain ⟨k, l, rfl⟩ := mk_at t; simp only [Ty.size] at ht; omega
  | succ N ih =>
  intro t d ht hN hd
  obtain ⟨k, l, rfl⟩ := mk_at t
  simp only [Ty.size] at ht
  have hl := len_size l
  refine ev_of_wp (d := d10) rfl rfl (Nat.le_of_ble_eq_true rfl) ?_
  cases d with
  | zero => simp only [go_sem, ↓reduceIte, Nat.reduceLT, Nat.reduceEqDiff, Nat.reduceAdd, Nat.reduceMul, Nat.reduceLeDiff, Nat.reduceBEq, Nat.reduceSub, Int.reduceLT, Int.reduceLE, Int.reduceEq, Int.reduceToNat, reduceCtorEq, Nat.lt_irrefl, Nat.le_refl, d10, c10, Ty.t, Ty.row, ncast0, Ty.ok]
  | succ d =>
  have e7 : (((d + 1 : Nat) : Int) = 0) = False := by simp; omega
  simp only [go_sem, ↓reduceIte, Nat.reduceLT, Nat.reduceEqDiff, Nat.reduceAdd, Nat.reduceMul, Nat.reduceLeDiff, Nat.reduceBEq, Nat.reduceSub, Int.reduceLT, Int.reduceLE, Int.reduceEq, Int.reduceToNat, reduceCtorEq, Nat.lt_irrefl, Nat.le_refl, d10, c10, Ty.t, Ty.row, e7]
  refine call0 (f38_ok k) (by rfl) (by rfl) (by rfl) (by rfl) ?_
  by_cases hw : wordB k = ⟨#[]⟩
  · simp only [go_sem, ↓reduceIte, Nat.reduceLT, Nat.reduceEqDiff, Nat.reduceAdd, Nat.reduceMul, Nat.reduceLeDiff, Nat.reduceBEq, Nat.reduceSub, Int.reduceLT, Int.reduceLE, Int.reduceEq, Int.reduceToNat, reduceCtorEq, Nat.lt_irrefl, Nat.le_refl, hw, Ty.ok]
  by_cases hc : l.length = cntN k
  case neg =>
    simp only [go_sem, ↓reduceIte, Nat.reduceLT, Nat.reduceEqDiff, Nat.reduceAdd, Nat.reduceMul, Nat.reduceLeDiff, Nat.reduceBEq, Nat.reduceSub, Int.reduceLT, Int.reduceLE, Int.reduceEq, Int.reduceToNat, reduceCtorEq, Nat.lt_irrefl, Nat.le_refl, hw]
    refine call0 (f39_ok k) (by rfl) (by rfl) (by rfl) (by rfl) ?_
    simp only [go_sem, ↓reduceIte, Nat.reduceLT, Nat.reduceEqDiff, Nat.reduceAdd, Nat.reduceMul, Nat.reduceLeDiff, Nat.reduceBEq, Nat.reduceSub, Int.reduceLT, Int.reduceLE, Int.reduceEq, Int.reduceToNat, reduceCtorEq, Nat.lt_irrefl, Nat.le_refl, rows_len, hc, Ty.ok, hw]
  simp only [go_sem, ↓reduceIte, Nat.reduceLT, Nat.reduceEqDiff, Nat.reduceAdd, Nat.reduceMul, Nat.reduceLeDiff, Nat.reduceBEq, Nat.reduceSub, Int.reduceLT, Int.reduceLE, Int.reduceEq, Int.reduceToNat, reduceCtorEq, Nat.lt_irrefl, Nat.le_refl, hw]
  refine call0 (f39_ok k) (by rfl) (by rfl) (by rfl) (by rfl) ?_
  simp only [go_sem, ↓reduceIte, Nat.reduceLT, Nat.reduceEqDiff, Nat.reduceAdd, Nat.reduceMul, Nat.reduceLeDiff, Nat.reduceBEq, Nat.reduceSub, Int.reduceLT, Int.reduceLE, Int.reduceEq, Int.reduceToNat, reduceCtorEq, Nat.lt_irrefl, Nat.le_refl, rows_len, hc]
  have ih' : ∀ (j : Nat) (h : j < l.length), Ev E false 10 [l[j].t, tI d] [] (tB (l[j].ok d)) [] := fun j h => ih l[j] d (by have := size_at h; omega) (by omega) (by omega)
  refine loop_ind (I := fun (j : Nat) tm bx fo => j ≤ l.length ∧ fo = [] ∧ tm 1 = tI ((d + 1 : Nat) : Int) ∧ tm 2 = .one (.ref (.loc 2 1) 0) ∧ tm 5 = tI j ∧ bx 2 = ⟨1, 29, [.v (.s (.int .i64 k)), .v (.sl (Ty.rows l))]⟩ ∧ (l.take j).all (Ty.ok d) = true) (μ := fun j => l.length - j) ?_ 0 _ _ _ ?_
  · rintro j tm bx fo ⟨hj, rfl, h1, h2, h5, b2, hn⟩ IH
    by_cases hjl : j < l.length
    · have e3 := rows_at hjl
      have e5 := ih' j hjl
      obtain ⟨k', l', he⟩ := mk_at l[j]
      rw [he] at e3 e5
      simp only [go_sem, ↓reduceIte, Nat.reduceLT, Nat.reduceEqDiff, Nat.reduceAdd, Nat.reduceMul, Nat.reduceLeDiff, Nat.reduceBEq, Nat.reduceSub, Int.reduceLT, Int.reduceLE, Int.reduceEq, Int.reduceToNat, reduceCtorEq, Nat.lt_irrefl, Nat.le_refl, h1, h2, h5, b2, rows_len, hjl, e3, Ty.row, wrap_pred (show d < 9223372036854775807 by omega)]
      refine call0 (e5) (by rfl) (by rfl) (by rfl) (by rfl) ?_
      have et := all_take_succ (p := Ty.ok d) hjl
      rw [he, hn] at et
      cases hk : (Ty.mk k' l').ok d with
      | false =>
        have : Ty.oks d l = false := by rw [oks_all]; exact all_false hjl (by rw [he]; exact hk)
        simp only [go_sem, ↓reduceIte, Nat.reduceLT, Nat.reduceEqDiff, Nat.reduceAdd, Nat.reduceMul, Nat.reduceLeDiff, Nat.reduceBEq, Nat.reduceSub, Int.reduceLT, Int.reduceLE, Int.reduceEq, Int.reduceToNat, reduceCtorEq, Nat.lt_irrefl, Nat.le_refl, hk, h1, h2, h5, Ty.ok, this]
      | true =>
        rw [hk] at et
        simp only [go_sem, ↓reduceIte, Nat.reduceLT, Nat.reduceEqDiff, Nat.reduceAdd, Nat.reduceMul, Nat.reduceLeDiff, Nat.reduceBEq, Nat.reduceSub, Int.reduceLT, Int.reduceLE, Int.reduceEq, Int.reduceToNat, reduceCtorEq, Nat.lt_irrefl, Nat.le_refl, hk, h1, h2, h5]
        refine IH (j + 1) _ _ _ (by omega) ⟨by omega, rfl, h1, h2, ?_, b2, et⟩
        show T.one (C.v (V.s (Value.int IntKind.i64 (IntKind.i64.wrap (j + 1))))) = _
        rw [wrap_succ (by omega)]; rfl
    · have : Ty.oks d l = true := by rw [oks_all]; rw [List.take_of_length_le (by omega)] at hn; exact hn
      simp only [go_sem, ↓reduceIte, Nat.reduceLT, Nat.reduceEqDiff, Nat.reduceAdd, Nat.reduceMul, Nat.reduceLeDiff, Nat.reduceBEq, Nat.reduceSub, Int.reduceLT, Int.reduceLE, Int.reduceEq, Int.reduceToNat, reduceCtorEq, Nat.lt_irrefl, Nat.le_refl, h1, h2, h5, b2, rows_len, hjl]
      simp only [go_sem, ↓reduceIte, Nat.reduceLT, Nat.reduceEqDiff, Nat.reduceAdd, Nat.reduceMul, Nat.reduceLeDiff, Nat.reduceBEq, Nat.reduceSub, Int.reduceLT, Int.reduceLE, Int.reduceEq, Int.reduceToNat, reduceCtorEq, Nat.lt_irrefl, Nat.le_refl, Ty.ok, hw, hc, this]
  · exact ⟨Nat.zero_le _, rfl, rfl, rfl, rfl, rfl, rfl⟩

end Go.Dev.KC

/- What may be gone through. -/
namespace Go.Dev.KC
open Go Go.Dev Go.Dev.Wk

mutual
def Ty.sm : Ty → Int → Nat → Bool × Int
  | .mk _ l, left, d => if left - 1 < 0 ∨ d = 0 then (false, left - 1) else Ty.sms l (left - 1) (d - 1)
def Ty.sms : List Ty → Int → Nat → Bool × Int
  | [], left, _ => (true, left)
  | t :: ts, left, d => if (t.sm left d).1 = true then Ty.sms ts (t.sm left d).2 d else (false, (t.sm left d).2)
end

mutual
theorem sm_le : ∀ (t : Ty) (left : Int) (d : Nat), 0 ≤ left → (-1 ≤ (t.sm left d).2 ∧ (t.sm left d).2 ≤ left - 1) ∧ ((t.sm left d).1 = true → (t.sm left d).2 = left - t.size ∧ 0 ≤ (t.sm left d).2)
  | .mk k l, left, d, h => by
    by_cases hc : left - 1 < 0 ∨ d = 0
    · simp only [Ty.sm, hc, if_true]; exact ⟨by omega, fun h => by cases h⟩
    · simp only [Ty.sm, hc, if_false]
      have := sms_le l (left - 1) (d - 1) (by omega)
      simp only [Ty.size]
      exact ⟨by omega, fun h => by have := this.2 h; omega⟩
theorem sms_le : ∀ (l : List Ty) (left : Int) (d : Nat), 0 ≤ left → (-1 ≤ (Ty.sms l left d).2 ∧ (Ty.sms l left d).2 ≤ left) ∧ ((Ty.sms l left d).1 = true → (Ty.sms l left d).2 = left - Ty.sizes l ∧ 0 ≤ (Ty.sms l left d).2)
  | [], left, d, h => by simp only [Ty.sms, Ty.sizes]; exact ⟨by omega, fun _ => by omega⟩
  | t :: ts, left, d, h => by
    have h1 := sm_le t left d h
    by_cases hc : (t.sm left d).1 = true
    · have h2 := h1.2 hc
      have h3 := sms_le ts (t.sm left d).2 d (by omega)
      simp only [Ty.sms, hc, if_true, Ty.sizes]
      exact ⟨by omega, fun h => by have := h3.2 h; omega⟩
    · simp only [Ty.sms, hc, Bool.false_eq_true, if_false]; exact ⟨by omega, fun h => by cases h⟩
end

def obL (left : Int) : Ob := ⟨0, 3, [.v (.s (.int .i64 left))]⟩

theorem f36_ok (N : Nat) : ∀ (t : Ty) (left : Int) (d : Nat), t.size ≤ N → 0 ≤ left → left ≤ 2000 → d < 100 → Ev E false 36 [t.t, .one (.ref (.fo 0) 0), tI d] [obL left] (tB (t.sm left d).1) [obL (t.sm left d).2] := by
  induction N with
  | zero => intro t left d ht; obtain ⟨k, l, rfl⟩ := mk_at t; simp only [Ty.size] at ht; omega
  | succ N ih =>
  intro t left d ht h0 h1 hd
  obtain ⟨k, l, rfl⟩ := mk_at t
  simp only [Ty.size] at ht
  refine ev_of_wp (d := d36) rfl rfl (Nat.le_of_ble_eq_true rfl) ?_
  have w1 : IntKind.i64.wrap (left - 1) = left - 1 := wrap_id (by omega) (by omega)
  by_cases hc : left - 1 < 0
  · simp only [go_sem, ↓reduceIte, Nat.reduceLT, Nat.reduceEqDiff, Nat.reduceAdd, Nat.reduceMul, Nat.reduceLeDiff, Nat.reduceBEq, Nat.reduceSub, Int.reduceLT, Int.reduceLE, Int.reduceEq, Int.reduceToNat, reduceCtorEq, Nat.lt_irrefl, Nat.le_refl, d36, c36, Ty.t, Ty.row, obL, w1, hc, Ty.sm, true_or]
  cases d with
  | zero => simp only [go_sem, ↓reduceIte, Nat.reduceLT, Nat.reduceEqDiff, Nat.reduceAdd, Nat.reduceMul, Nat.reduceLeDiff, Nat.reduceBEq, Nat.reduceSub, Int.reduceLT, Int.reduceLE, Int.reduceEq, Int.reduceToNat, reduceCtorEq, Nat.lt_irrefl, Nat.le_refl, d36, c36, Ty.t, Ty.row, obL, w1, hc, Ty.sm, ncast0, or_true]
  | succ d =>
  have e7 : (((d + 1 : Nat) : Int) = 0) = False := by simp; omega
  have e8 : (left - 1 < 0 ∨ d + 1 = 0) = False := by simp; omega
  simp only [go_sem, ↓reduceIte, Nat.reduceLT, Nat.reduceEqDiff, Nat.reduceAdd, Nat.reduceMul, Nat.reduceLeDiff, Nat.reduceBEq, Nat.reduceSub, Int.reduceLT, Int.reduceLE, Int.reduceEq, Int.reduceToNat, reduceCtorEq, Nat.lt_irrefl, Nat.le_refl, d36, c36, Ty.t, Ty.row, obL, w1, hc, e7]
  have et : Ty.sm (.mk k l) left (d + 1) = Ty.sms l (left - 1) d := by rw [Ty.sm, if_neg (by omega)]; rfl
  refine loop_ind (I := fun (a : Nat × Int) tm bx fo => a.1 ≤ l.length ∧ fo = [obL a.2] ∧ 0 ≤ a.2 ∧ a.2 + a.1 ≤ left - 1 ∧ tm 1 = .one (.ref (.fo 0) 0) ∧ tm 2 = tI ((d + 1 : Nat) : Int) ∧ tm 23 = .one (.v (.sl (Ty.rows l))) ∧ tm 24 = tI l.length ∧ tm 25 = tI a.1 ∧
    Ty.sms l (left - 1) d = Ty.sms (l.drop a.1) a.2 d) (μ := fun a => l.length - a.1) ?_ (0, left - 1) _ _ _ ?_
  · rintro ⟨j, lf⟩ tm bx fo ⟨hj, rfl, h3, h4, t1, t2, t23, t24, t25, hs⟩ IH
    simp only at hj h3 h4 t25 hs
    by_cases hjl : j < l.length
    · have e3 := rows_at hjl
      have e5 := ih l[j] lf d (by have := size_at hjl; omega) h3 (by omega) (by omega)
      have e6 := sm_le l[j] lf d h3
      have e9 : Ty.sms (l.drop j) lf d = if (l[j].sm lf d).1 = true then Ty.sms (l.drop (j + 1)) (l[j].sm lf d).2 d else (false, (l[j].sm lf d).2) := by
        rw [List.drop_eq_getElem_cons hjl]; simp only [Ty.sms]
      obtain ⟨k', l', he⟩ := mk_at l[j]
      rw [he] at e3 e5 e6 e9
      simp only [go_sem, ↓reduceIte, Nat.reduceLT, Nat.reduceEqDiff, Nat.reduceAdd, Nat.reduceMul, Nat.reduceLeDiff, Nat.reduceBEq, Nat.reduceSub, Int.reduceLT, Int.reduceLE, Int.reduceEq, Int.reduceToNat, reduceCtorEq, Nat.lt_irrefl, Nat.le_refl, t1, t2, t23, t24, t25, hjl, e3, Ty.row, wrap_pred (show d < 9223372036854775807 by omega), obL]
      refine callK (by rfl) ?_
      simp only [go_sem, ↓reduceIte, Nat.reduceLT, Nat.reduceEqDiff, Nat.reduceAdd, Nat.reduceMul, Nat.reduceLeDiff, Nat.reduceBEq, Nat.reduceSub, Int.reduceLT, Int.reduceLE, Int.reduceEq, Int.reduceToNat, reduceCtorEq, Nat.lt_irrefl, Nat.le_refl]
      refine callE (e5) (by rfl) ?_
      simp only [go_sem, ↓reduceIte, Nat.reduceLT, Nat.reduceEqDiff, Nat.reduceAdd, Nat.reduceMul, Nat.reduceLeDiff, Nat.reduceBEq, Nat.reduceSub, Int.reduceLT, Int.reduceLE, Int.reduceEq, Int.reduceToNat, reduceCtorEq, Nat.lt_irrefl, Nat.le_refl, obL]
      cases hk : ((Ty.mk k' l').sm lf d).1 with
      | false =>
        rw [hk, if_neg (by simp)] at e9
        simp only [go_sem, ↓reduceIte, Nat.reduceLT, Nat.reduceEqDiff, Nat.reduceAdd, Nat.reduceMul, Nat.reduceLeDiff, Nat.reduceBEq, Nat.reduceSub, Int.reduceLT, Int.reduceLE, Int.reduceEq, Int.reduceToNat, reduceCtorEq, Nat.lt_irrefl, Nat.le_refl, hk, et, hs, e9]
      | true =>
        rw [hk, if_pos rfl] at e9
        have := e6.2 hk
        simp only [go_sem, ↓reduceIte, Nat.reduceLT, Nat.reduceEqDiff, Nat.reduceAdd, Nat.reduceMul, Nat.reduceLeDiff, Nat.reduceBEq, Nat.reduceSub, Int.reduceLT, Int.reduceLE, Int.reduceEq, Int.reduceToNat, reduceCtorEq, Nat.lt_irrefl, Nat.le_refl, hk, t25]
        refine IH (j + 1, ((Ty.mk k' l').sm lf d).2) _ _ _ (by simp only; omega) ⟨by simp only; omega, rfl, by simp only; omega, by simp only; omega, t1, t2, t23, t24, ?_, by rw [hs, e9]⟩
        show T.one (C.v (V.s (Value.int IntKind.i64 (IntKind.i64.wrap (j + 1))))) = _
        rw [wrap_succ (by omega)]; rfl
    · obtain rfl : j = l.length := by omega
      rw [List.drop_length] at hs
      simp only [go_sem, ↓reduceIte, Nat.reduceLT, Nat.reduceEqDiff, Nat.reduceAdd, Nat.reduceMul, Nat.reduceLeDiff, Nat.reduceBEq, Nat.reduceSub, Int.reduceLT, Int.reduceLE, Int.reduceEq, Int.reduceToNat, reduceCtorEq, Nat.lt_irrefl, Nat.le_refl, t1, t2, t23, t24, t25, hjl, et, hs, Ty.sms, obL]
  · refine ⟨Nat.zero_le _, rfl, by simp only; omega, by simp only; omega, rfl, rfl, rfl, ?_, rfl, by simp only [List.drop_zero]⟩
    show T.one (C.v (V.s (Value.int IntKind.i64 ((Ty.rows l).length : Nat)))) = _
    rw [rows_len]; rfl

def Ty.fits (t : Ty) : Bool := (t.sm 2000 30).1

theorem fits_size {t : Ty} (h : t.fits = true) : t.size ≤ 2000 := by
  have := (sm_le t 2000 30 (by omega)).2 h
  omega

theorem f7_ok (t : Ty) : Ev E false 7 [t.t] [] (tB t.fits) [] := by
  refine ev_of_wp (d := d7) rfl rfl (Nat.le_of_ble_eq_true rfl) ?_
  have h := f36_ok t.size t 2000 30 (Nat.le_refl _) (by omega) (by omega) (by omega)
  obtain ⟨k, l, rfl⟩ := mk_at t
  simp only [go_sem, ↓reduceIte, Nat.reduceLT, Nat.reduceEqDiff, Nat.reduceAdd, Nat.reduceMul, Nat.reduceLeDiff, Nat.reduceBEq, Nat.reduceSub, Int.reduceLT, Int.reduceLE, Int.reduceEq, Int.reduceToNat, reduceCtorEq, Nat.lt_irrefl, Nat.le_refl, d7, c7, Ty.t, Ty.row]
  refine callK (by rfl) ?_
  simp only [go_sem, ↓reduceIte, Nat.reduceLT, Nat.reduceEqDiff, Nat.reduceAdd, Nat.reduceMul, Nat.reduceLeDiff, Nat.reduceBEq, Nat.reduceSub, Int.reduceLT, Int.reduceLE, Int.reduceEq, Int.reduceToNat, reduceCtorEq, Nat.lt_irrefl, Nat.le_refl]
  refine callE (h) (by rfl) ?_
  simp only [go_sem, ↓reduceIte, Nat.reduceLT, Nat.reduceEqDiff, Nat.reduceAdd, Nat.reduceMul, Nat.reduceLeDiff, Nat.reduceBEq, Nat.reduceSub, Int.reduceLT, Int.reduceLE, Int.reduceEq, Int.reduceToNat, reduceCtorEq, Nat.lt_irrefl, Nat.le_refl, obL, Ty.fits]

end Go.Dev.KC

/- Types copied, and their depth and least value. -/
namespace Go.Dev.KC
open Go Go.Dev Go.Dev.Wk

theorem take_row {l : List Ty} {j : Nat} (h : j < l.length) : (Ty.rows l).take (j + 1) = (Ty.rows l).take j ++ [l[j].row] := by
  rw [List.take_add_one, rows_at h]; rfl

theorem take_len {l : List Ty} {j : Nat} (h : j ≤ l.length) : ((Ty.rows l).take j).length = j := by
  rw [List.length_take, rows_len]; omega

theorem f9_ok (N : Nat) : ∀ t : Ty, t.size ≤ N → N ≤ 100000 → Ev E false 9 [t.t] [] t.t [] := by
  induction N with
  | zero => intro t ht; obtain ⟨k, l, rfl⟩ := mk_at t; simp only [Ty.size] at ht; omega
  | succ N ih =>
  intro t ht hN
  obtain ⟨k, l, rfl⟩ := mk_at t
  simp only [Ty.size] at ht
  have hl := len_size l
  refine ev_of_wp (d := d9) rfl rfl (Nat.le_of_ble_eq_true rfl) ?_
  simp only [go_sem, ↓reduceIte, Nat.reduceLT, Nat.reduceEqDiff, Nat.reduceAdd, Nat.reduceMul, Nat.reduceLeDiff, Nat.reduceBEq, Nat.reduceSub, Int.reduceLT, Int.reduceLE, Int.reduceEq, Int.reduceToNat, reduceCtorEq, Nat.lt_irrefl, Nat.le_refl, d9, c9, Ty.t, Ty.row]
  refine loop_ind (I := fun (j : Nat) tm bx fo => j ≤ l.length ∧ fo = [] ∧ tm 1 = .one (.ref (.loc 1 1) 0) ∧ tm 2 = .one (.ref (.loc 2 1) 0) ∧ tm 7 = .one (.v (.sl (Ty.rows l))) ∧ tm 8 = tI l.length ∧ tm 9 = tI j ∧
      bx 1 = ⟨1, 24, [.v (.s (.int .i64 k)), .v (.sl (Ty.rows l))]⟩ ∧ bx 2 = ⟨1, 29, [.v (.s (.int .i64 0)), .esl]⟩ ∧
      ((j = 0 ∧ tm 3 = .one .esl) ∨ (0 < j ∧ tm 3 = .one (.lin 17 (bx 17).g 29 ((Ty.rows l).take j))))) (μ := fun j => l.length - j) ?_ 0 _ _ _ ?_
  · rintro j tm bx fo ⟨hj, rfl, h1, h2, h7, h8, h9, b1, b2, h3⟩ IH
    by_cases hjl : j < l.length
    · have e3 := rows_at hjl
      have et := take_row hjl
      have e5 := ih l[j] (by have := size_at hjl; omega) (by omega)
      obtain ⟨k', l', he⟩ := mk_at l[j]
      rw [he] at e3 e5 et
      simp only [go_sem, ↓reduceIte, Nat.reduceLT, Nat.reduceEqDiff, Nat.reduceAdd, Nat.reduceMul, Nat.reduceLeDiff, Nat.reduceBEq, Nat.reduceSub, Int.reduceLT, Int.reduceLE, Int.reduceEq, Int.reduceToNat, reduceCtorEq, Nat.lt_irrefl, Nat.le_refl, h1, h2, h7, h8, h9, b1, b2, hjl, e3, Ty.row]
      refine call0 (e5) (by rfl) (by rfl) (by rfl) (by rfl) ?_
      rcases h3 with ⟨rfl, h3⟩ | ⟨hj0, h3⟩
      · simp only [go_sem, ↓reduceIte, Nat.reduceLT, Nat.reduceEqDiff, Nat.reduceAdd, Nat.reduceMul, Nat.reduceLeDiff, Nat.reduceBEq, Nat.reduceSub, Int.reduceLT, Int.reduceLE, Int.reduceEq, Int.reduceToNat, reduceCtorEq, Nat.lt_irrefl, Nat.le_refl, h1, h2, h7, h8, h9, b1, b2, h3, Ty.t, Ty.row, appEsl, okB (n := 0 + 1) (b := 32) (by omega)]
        refine IH 1 _ _ _ (by omega) ⟨by omega, rfl, h1, h2, h7, h8, rfl, b1, b2, Or.inr ⟨by omega, ?_⟩⟩
        rw [et]; rfl
      · simp only [go_sem, ↓reduceIte, Nat.reduceLT, Nat.reduceEqDiff, Nat.reduceAdd, Nat.reduceMul, Nat.reduceLeDiff, Nat.reduceBEq, Nat.reduceSub, Int.reduceLT, Int.reduceLE, Int.reduceEq, Int.reduceToNat, reduceCtorEq, Nat.lt_irrefl, Nat.le_refl, h1, h2, h7, h8, h9, b1, b2, h3, Ty.t, Ty.row, appLin, allSz_take (allSz_rows l) j, take_len hj, okB (n := j + (0 + 1)) (b := 32) (by omega)]
        refine IH (j + 1) _ _ _ (by omega) ⟨by omega, rfl, h1, h2, h7, h8, ?_, b1, b2, Or.inr ⟨by omega, ?_⟩⟩
        · show T.one (C.v (V.s (Value.int IntKind.i64 (IntKind.i64.wrap (j + 1))))) = _
          rw [wrap_succ (by omega)]; rfl
        · rw [et]; rfl
    · obtain rfl : j = l.length := by omega
      simp only [go_sem, ↓reduceIte, Nat.reduceLT, Nat.reduceEqDiff, Nat.reduceAdd, Nat.reduceMul, Nat.reduceLeDiff, Nat.reduceBEq, Nat.reduceSub, Int.reduceLT, Int.reduceLE, Int.reduceEq, Int.reduceToNat, reduceCtorEq, Nat.lt_irrefl, Nat.le_refl, h1, h2, h7, h8, h9, b1, b2]
      rcases h3 with ⟨h0, h3⟩ | ⟨_, h3⟩
      · obtain rfl : l = [] := List.length_eq_zero_iff.1 h0
        simp only [go_sem, ↓reduceIte, Nat.reduceLT, Nat.reduceEqDiff, Nat.reduceAdd, Nat.reduceMul, Nat.reduceLeDiff, Nat.reduceBEq, Nat.reduceSub, Int.reduceLT, Int.reduceLE, Int.reduceEq, Int.reduceToNat, reduceCtorEq, Nat.lt_irrefl, Nat.le_refl, h1, h2, b1, b2, h3, Ty.rows]
      · rw [List.take_of_length_le (by rw [rows_len]; exact Nat.le_refl _)] at h3
        simp only [go_sem, ↓reduceIte, Nat.reduceLT, Nat.reduceEqDiff, Nat.reduceAdd, Nat.reduceMul, Nat.reduceLeDiff, Nat.reduceBEq, Nat.reduceSub, Int.reduceLT, Int.reduceLE, Int.reduceEq, Int.reduceToNat, reduceCtorEq, Nat.lt_irrefl, Nat.le_refl, h1, h2, b1, b2, h3]
  · refine ⟨Nat.zero_le _, rfl, rfl, rfl, rfl, ?_, rfl, rfl, rfl, Or.inl ⟨rfl, rfl⟩⟩
    show T.one (C.v (V.s (Value.int IntKind.i64 ((Ty.rows l).length : Nat)))) = _
    rw [rows_len]; rfl

/-- The copy handed over: its cells. -/
def Ty.flat (l : List Ty) : List V := (Ty.rows l).flatten
def Ty.tA : Ty → T
  | .mk k [] => .agg [.v (.s (.int .i64 k)), .v (.sl [])]
  | .mk k l => .agg [.v (.s (.int .i64 k)), .osl (.fo 0) 2 0 l.length]
def Ty.args : Ty → List Ty
  | .mk _ l => l
def Ty.kind : Ty → Int
  | .mk k _ => k

theorem flat_take {l : List Ty} {j : Nat} (h : j < l.length) {k : Int} {l' : List Ty} (he : l[j] = .mk k l') : ((Ty.rows l).take (j + 1)).flatten.map C.v = ((Ty.rows l).take j).flatten.map C.v ++ [.v (.s (.int .i64 k)), .v (.sl (Ty.rows l'))] := by
  rw [take_row h, he, List.flatten_append, List.map_append]; rfl

theorem flat_take_len {l : List Ty} {j : Nat} (h : j ≤ l.length) : (((Ty.rows l).take j).flatten.map C.v).length = j * 2 := by
  rw [List.length_map, flat_len (allSz_take (allSz_rows l) j), take_len h]

/-- What clone leaves, whichever way it goes out. -/
theorem f44_wp (k : Int) (l : List Ty) (hl : l.length < 100000) (ad : Bool) (r : T) (fo' : List Ob) (hc : ∀ t ∈ l, Ev E false 44 [t.t] [] t.t [])
    (h0 : l = [] → ∀ tm bx, bx 2 = ⟨1, 24, [.v (.s (.int .i64 k)), .esl]⟩ → finish ad (ofF 23 46 tm bx []) [.agg [.v (.s (.int .i64 k)), .esl]] = some (r, fo'))
    (h1 : l ≠ [] → ∀ tm bx, (bx 17).cs = (Ty.flat l).map .v → finish ad (ofF 23 46 tm bx []) [.agg [.v (.s (.int .i64 k)), .osl (.loc 17 (bx 17).g) 2 0 l.length]] = some (r, fo')) :
    Ev E ad 44 [(Ty.mk k l).t] [] r fo' := by
  refine ev_of_wp (d := d44) rfl rfl (Nat.le_of_ble_eq_true rfl) ?_
  generalize hQ : Wk.Fin d44.res ad r fo' = Q
  simp only [go_sem, ↓reduceIte, Nat.reduceLT, Nat.reduceEqDiff, Nat.reduceAdd, Nat.reduceMul, Nat.reduceLeDiff, Nat.reduceBEq, Nat.reduceSub, Int.reduceLT, Int.reduceLE, Int.reduceEq, Int.reduceToNat, reduceCtorEq, Nat.lt_irrefl, Nat.le_refl, d44, c44, Ty.t, Ty.row]
  refine loop_ind (I := fun (j : Nat) tm bx fo => j ≤ l.length ∧ fo = [] ∧ tm 1 = .one (.ref (.loc 1 1) 0) ∧ tm 2 = .one (.ref (.loc 2 1) 0) ∧ tm 7 = .one (.v (.sl (Ty.rows l))) ∧ tm 8 = tI l.length ∧ tm 9 = tI j ∧
      bx 1 = ⟨1, 24, [.v (.s (.int .i64 k)), .v (.sl (Ty.rows l))]⟩ ∧ bx 2 = ⟨1, 24, [.v (.s (.int .i64 0)), .esl]⟩ ∧
      ((j = 0 ∧ tm 3 = .one .esl) ∨ (0 < j ∧ tm 3 = .one (.osl (.loc 17 (bx 17).g) 2 0 j) ∧ (bx 17).cs = ((Ty.rows l).take j).flatten.map .v))) (μ := fun j => l.length - j) ?_ 0 _ _ _ ?_
  · rintro j tm bx fo ⟨hj, rfl, t1, t2, t7, t8, t9, b1, b2, h3⟩ IH
    by_cases hjl : j < l.length
    · have e3 := rows_at hjl
      have et : ∀ k' l', l[j] = .mk k' l' → _ := fun k' l' => flat_take hjl
      have e5 := hc l[j] (List.getElem_mem hjl)
      obtain ⟨k', l', he⟩ := mk_at l[j]
      have et := et k' l' he
      rw [he] at e3 e5
      simp only [go_sem, ↓reduceIte, Nat.reduceLT, Nat.reduceEqDiff, Nat.reduceAdd, Nat.reduceMul, Nat.reduceLeDiff, Nat.reduceBEq, Nat.reduceSub, Int.reduceLT, Int.reduceLE, Int.reduceEq, Int.reduceToNat, reduceCtorEq, Nat.lt_irrefl, Nat.le_refl, t1, t2, t7, t8, t9, b1, b2, hjl, e3, Ty.row]
      refine call0 (e5) (by rfl) (by rfl) (by rfl) (by rfl) ?_
      rcases h3 with ⟨rfl, h3⟩ | ⟨hj0, h3, b17⟩
      · simp only [go_sem, ↓reduceIte, Nat.reduceLT, Nat.reduceEqDiff, Nat.reduceAdd, Nat.reduceMul, Nat.reduceLeDiff, Nat.reduceBEq, Nat.reduceSub, Int.reduceLT, Int.reduceLE, Int.reduceEq, Int.reduceToNat, reduceCtorEq, Nat.lt_irrefl, Nat.le_refl, t1, t2, t7, t8, t9, b1, b2, h3, Ty.t, Ty.row, appEsl, okB (n := 0 + 1) (b := 32) (by omega)]
        refine IH 1 _ _ _ (by omega) ⟨by omega, rfl, t1, t2, t7, t8, rfl, b1, b2, Or.inr ⟨by omega, rfl, ?_⟩⟩
        rw [et]; rfl
      · have hlen := flat_take_len hj
        have hj1 : ¬ j = 0 := by omega
        simp only [go_sem, ↓reduceIte, Nat.reduceLT, Nat.reduceEqDiff, Nat.reduceAdd, Nat.reduceMul, Nat.reduceLeDiff, Nat.reduceBEq, Nat.reduceSub, Int.reduceLT, Int.reduceLE, Int.reduceEq, Int.reduceToNat, reduceCtorEq, Nat.lt_irrefl, Nat.le_refl, t1, t2, t7, t8, t9, b1, b2, h3, Ty.t, Ty.row, b17, hlen, hj1, okB (n := j + (0 + 1)) (b := 32) (by omega), ne_eq]
        refine IH (j + 1) _ _ _ (by omega) ⟨by omega, rfl, t1, t2, t7, t8, ?_, b1, b2, Or.inr ⟨by omega, rfl, ?_⟩⟩
        · show T.one (C.v (V.s (Value.int IntKind.i64 (IntKind.i64.wrap (j + 1))))) = _
          rw [wrap_succ (by omega)]; rfl
        · rw [et]; rfl
    · obtain rfl : j = l.length := by omega
      simp only [go_sem, ↓reduceIte, Nat.reduceLT, Nat.reduceEqDiff, Nat.reduceAdd, Nat.reduceMul, Nat.reduceLeDiff, Nat.reduceBEq, Nat.reduceSub, Int.reduceLT, Int.reduceLE, Int.reduceEq, Int.reduceToNat, reduceCtorEq, Nat.lt_irrefl, Nat.le_refl, t1, t2, t7, t8, t9, b1, b2]
      rcases h3 with ⟨hl0, h3⟩ | ⟨hj0, h3, b17⟩
      · obtain rfl : l = [] := List.length_eq_zero_iff.1 hl0
        simp only [go_sem, ↓reduceIte, Nat.reduceLT, Nat.reduceEqDiff, Nat.reduceAdd, Nat.reduceMul, Nat.reduceLeDiff, Nat.reduceBEq, Nat.reduceSub, Int.reduceLT, Int.reduceLE, Int.reduceEq, Int.reduceToNat, reduceCtorEq, Nat.lt_irrefl, Nat.le_refl, t1, t2, b1, b2, h3]
        subst hQ
        simp only [go_sem, ↓reduceIte, Nat.reduceLT, Nat.reduceEqDiff, Nat.reduceAdd, Nat.reduceMul, Nat.reduceLeDiff, Nat.reduceBEq, Nat.reduceSub, Int.reduceLT, Int.reduceLE, Int.reduceEq, Int.reduceToNat, reduceCtorEq, Nat.lt_irrefl, Nat.le_refl, d44, t2]
        exact h0 rfl _ _ rfl
      · simp only [go_sem, ↓reduceIte, Nat.reduceLT, Nat.reduceEqDiff, Nat.reduceAdd, Nat.reduceMul, Nat.reduceLeDiff, Nat.reduceBEq, Nat.reduceSub, Int.reduceLT, Int.reduceLE, Int.reduceEq, Int.reduceToNat, reduceCtorEq, Nat.lt_irrefl, Nat.le_refl, t1, t2, b1, b2, h3]
        subst hQ
        simp only [go_sem, ↓reduceIte, Nat.reduceLT, Nat.reduceEqDiff, Nat.reduceAdd, Nat.reduceMul, Nat.reduceLeDiff, Nat.reduceBEq, Nat.reduceSub, Int.reduceLT, Int.reduceLE, Int.reduceEq, Int.reduceToNat, reduceCtorEq, Nat.lt_irrefl, Nat.le_refl, d44, t2]
        refine h1 (by rintro rfl; simp at hj0) _ _ ?_
        rw [List.take_of_length_le (by rw [rows_len]; exact Nat.le_refl _)] at b17
        exact b17
  · refine ⟨Nat.zero_le _, rfl, rfl, rfl, rfl, ?_, rfl, rfl, rfl, Or.inl ⟨rfl, rfl⟩⟩
    show T.one (C.v (V.s (Value.int IntKind.i64 ((Ty.rows l).length : Nat)))) = _
    rw [rows_len]; rfl

theorem f44_ok (N : Nat) : ∀ t : Ty, t.size ≤ N → N ≤ 100000 → Ev E false 44 [t.t] [] t.t [] := by
  induction N with
  | zero => intro t ht; obtain ⟨k, l, rfl⟩ := mk_at t; simp only [Ty.size] at ht; omega
  | succ N ih =>
  intro t ht hN
  obtain ⟨k, l, rfl⟩ := mk_at t
  simp only [Ty.size] at ht
  have hl := len_size l
  refine f44_wp k l (by omega) false _ _ (fun t h => ih t (by have := size_mem h; omega) (by omega)) ?_ ?_
  · rintro rfl tm bx h
    simp only [go_sem, ↓reduceIte, Nat.reduceLT, Nat.reduceEqDiff, Nat.reduceAdd, Nat.reduceMul, Nat.reduceLeDiff, Nat.reduceBEq, Nat.reduceSub, Int.reduceLT, Int.reduceLE, Int.reduceEq, Int.reduceToNat, reduceCtorEq, Nat.lt_irrefl, Nat.le_refl, h]; rfl
  · intro hn tm bx h
    have e : (Ty.flat l).length = l.length * 2 := by rw [Ty.flat, flat_len (allSz_rows l), rows_len]
    have e2 : chunk 2 l.length (Ty.flat l) = Ty.rows l := by
      have := chunk_flat (allSz_rows l); rw [rows_len] at this; exact this
    simp only [go_sem, ↓reduceIte, Nat.reduceLT, Nat.reduceEqDiff, Nat.reduceAdd, Nat.reduceMul, Nat.reduceLeDiff, Nat.reduceBEq, Nat.reduceSub, Int.reduceLT, Int.reduceLE, Int.reduceEq, Int.reduceToNat, reduceCtorEq, Nat.lt_irrefl, Nat.le_refl, h, List.length_map, e, e2, Nat.zero_add]
    rfl

end Go.Dev.KC

/- Make, depth and zero. -/
namespace Go.Dev.KC
open Go Go.Dev Go.Dev.Wk

theorem f44_okA {k : Int} {l : List Ty} (ht : (Ty.mk k l).size ≤ 100000) : Ev E true 44 [(Ty.mk k l).t] [] (Ty.mk k l).tA [⟨0, 0, (Ty.flat l).map .v⟩] := by
  simp only [Ty.size] at ht
  have hl := len_size l
  refine f44_wp k l (by omega) true _ _ (fun t h => f44_ok t.size t (Nat.le_refl _) (by have := size_mem h; omega)) ?_ ?_
  · rintro rfl tm bx h
    simp only [go_sem, ↓reduceIte, Nat.reduceLT, Nat.reduceEqDiff, Nat.reduceAdd, Nat.reduceMul, Nat.reduceLeDiff, Nat.reduceBEq, Nat.reduceSub, Int.reduceLT, Int.reduceLE, Int.reduceEq, Int.reduceToNat, reduceCtorEq, Nat.lt_irrefl, Nat.le_refl, h, List.flatMap_cons]; rfl
  · intro hn tm bx h
    obtain ⟨t, l', rfl⟩ : ∃ t l', l = t :: l' := by cases l; exact absurd rfl hn; exact ⟨_, _, rfl⟩
    simp only [go_sem, ↓reduceIte, Nat.reduceLT, Nat.reduceEqDiff, Nat.reduceAdd, Nat.reduceMul, Nat.reduceLeDiff, Nat.reduceBEq, Nat.reduceSub, Int.reduceLT, Int.reduceLE, Int.reduceEq, Int.reduceToNat, reduceCtorEq, Nat.lt_irrefl, Nat.le_refl, h, Ty.tA]

/-- What Make leaves in its caller's list. -/
def okT (t : Ty) : T := if t.ok 6 = true then .tup [t.tA, tI 0] else .tup [.agg [.v (.s (.int .i64 0)), .v (.sl [])], tI 20]
def okO (t : Ty) : List C := if t.ok 6 = true then (Ty.flat t.args).map .v else []

theorem f14_ok {k : Int} {l : List Ty} (ht : (Ty.mk k l).size < 100000) : Ev E true 14 [tI k, .one (.v (.sl (Ty.rows l)))] [] (okT (.mk k l)) [⟨0, 0, okO (.mk k l)⟩] := by
  refine ev_of_wp (d := d14) rfl rfl (Nat.le_of_ble_eq_true rfl) ?_
  simp only [go_sem, ↓reduceIte, Nat.reduceLT, Nat.reduceEqDiff, Nat.reduceAdd, Nat.reduceMul, Nat.reduceLeDiff, Nat.reduceBEq, Nat.reduceSub, Int.reduceLT, Int.reduceLE, Int.reduceEq, Int.reduceToNat, reduceCtorEq, Nat.lt_irrefl, Nat.le_refl, d14, c14]
  refine call0 (f17_ok (.mk k l) ht) (by rfl) (by rfl) (by rfl) (by rfl) ?_
  cases h6 : (Ty.mk k l).ok 6 with
  | false =>
    simp only [go_sem, ↓reduceIte, Nat.reduceLT, Nat.reduceEqDiff, Nat.reduceAdd, Nat.reduceMul, Nat.reduceLeDiff, Nat.reduceBEq, Nat.reduceSub, Int.reduceLT, Int.reduceLE, Int.reduceEq, Int.reduceToNat, reduceCtorEq, Nat.lt_irrefl, Nat.le_refl, h6, Bool.false_eq_true, okT, okO]
  | true =>
    simp only [go_sem, ↓reduceIte, Nat.reduceLT, Nat.reduceEqDiff, Nat.reduceAdd, Nat.reduceMul, Nat.reduceLeDiff, Nat.reduceBEq, Nat.reduceSub, Int.reduceLT, Int.reduceLE, Int.reduceEq, Int.reduceToNat, reduceCtorEq, Nat.lt_irrefl, Nat.le_refl, h6]
    cases l with
    | nil =>
      refine callA0 (d := 18) (f44_okA (k := k) (l := []) (by omega)) (by rfl) (by rfl) (by rfl) (by omega) (by omega) (toVs_map _) (by rfl) ?_
      simp only [go_sem, ↓reduceIte, Nat.reduceLT, Nat.reduceEqDiff, Nat.reduceAdd, Nat.reduceMul, Nat.reduceLeDiff, Nat.reduceBEq, Nat.reduceSub, Int.reduceLT, Int.reduceLE, Int.reduceEq, Int.reduceToNat, reduceCtorEq, Nat.lt_irrefl, Nat.le_refl]
      simp only [go_sem, ↓reduceIte, Nat.reduceLT, Nat.reduceEqDiff, Nat.reduceAdd, Nat.reduceMul, Nat.reduceLeDiff, Nat.reduceBEq, Nat.reduceSub, Int.reduceLT, Int.reduceLE, Int.reduceEq, Int.reduceToNat, reduceCtorEq, Nat.lt_irrefl, Nat.le_refl, okT, okO, h6, Ty.tA, Ty.args]; rfl
    | cons a l =>
      refine callA0 (d := 18) (f44_okA (k := k) (l := a :: l) (by omega)) (by rfl) (by rfl) (by rfl) (by omega) (by omega) (toVs_map _) (by rfl) ?_
      simp only [go_sem, ↓reduceIte, Nat.reduceLT, Nat.reduceEqDiff, Nat.reduceAdd, Nat.reduceMul, Nat.reduceLeDiff, Nat.reduceBEq, Nat.reduceSub, Int.reduceLT, Int.reduceLE, Int.reduceEq, Int.reduceToNat, reduceCtorEq, Nat.lt_irrefl, Nat.le_refl, Ty.tA]
      simp only [go_sem, ↓reduceIte, Nat.reduceLT, Nat.reduceEqDiff, Nat.reduceAdd, Nat.reduceMul, Nat.reduceLeDiff, Nat.reduceBEq, Nat.reduceSub, Int.reduceLT, Int.reduceLE, Int.reduceEq, Int.reduceToNat, reduceCtorEq, Nat.lt_irrefl, Nat.le_refl, okT, okO, h6, Ty.tA, Ty.args]

/-! ### Depth -/

mutual
def Ty.dep : Ty → Nat
  | .mk _ l => Ty.deps l + 1
def Ty.deps : List Ty → Nat
  | [] => 0
  | t :: ts => if t.dep ≤ Ty.deps ts then Ty.deps ts else t.dep
end

mutual
theorem dep_size : ∀ t : Ty, t.dep ≤ t.size
  | .mk k l => by have := deps_size l; simp only [Ty.dep, Ty.size]; omega
theorem deps_size : ∀ l : List Ty, Ty.deps l ≤ Ty.sizes l
  | [] => Nat.le_refl _
  | t :: ts => by
    have := deps_size ts
    have := dep_size t
    simp only [Ty.deps, Ty.sizes]
    split <;> omega
end

/-- The greater one of what was found and what is still to come. -/
def gr (a b : Nat) : Nat := if a ≤ b then b else a

theorem gr_nil (n : Nat) : gr n (Ty.deps []) = n := by
  by_cases h : n ≤ 0
  · simp only [gr, Ty.deps, h, if_true]; omega
  · simp only [gr, Ty.deps, h, if_false]

theorem gr_step {l : List Ty} {j n : Nat} (h : j < l.length) : gr n (Ty.deps (l.drop j)) = gr (if n < l[j].dep then l[j].dep else n) (Ty.deps (l.drop (j + 1))) := by
  rw [List.drop_eq_getElem_cons h]
  simp only [Ty.deps, gr]
  repeat' split
  all_goals omega

theorem f42_ok (N : Nat) : ∀ t : Ty, t.size ≤ N → N ≤ 100000 → Ev E false 42 [t.t] [] (tI t.dep) [] := by
  induction N with
  | zero => intro t ht; obtain ⟨k, l, rfl⟩ := mk_at t; simp only [Ty.size] at ht; omega
  | succ N ih =>
  intro t ht hN
  obtain ⟨k, l, rfl⟩ := mk_at t
  simp only [Ty.size] at ht
  have hl := len_size l
  have hds := deps_size l
  refine ev_of_wp (d := d42) rfl rfl (Nat.le_of_ble_eq_true rfl) ?_
  simp only [go_sem, ↓reduceIte, Nat.reduceLT, Nat.reduceEqDiff, Nat.reduceAdd, Nat.reduceMul, Nat.reduceLeDiff, Nat.reduceBEq, Nat.reduceSub, Int.reduceLT, Int.reduceLE, Int.reduceEq, Int.reduceToNat, reduceCtorEq, Nat.lt_irrefl, Nat.le_refl, d42, c42, Ty.t, Ty.row]
  refine loop_ind (I := fun (a : Nat × Nat) tm bx fo => a.1 ≤ l.length ∧ fo = [] ∧ tm 7 = .one (.v (.sl (Ty.rows l))) ∧ tm 8 = tI l.length ∧ tm 9 = tI a.1 ∧ tm 3 = tI a.2 ∧
      gr a.2 (Ty.deps (l.drop a.1)) = Ty.deps l) (μ := fun a => l.length - a.1) ?_ (0, 0) _ _ _ ?_
  · rintro ⟨j, n⟩ tm bx fo ⟨hj, rfl, t7, t8, t9, t3, hg⟩ IH
    simp only at hj t9 t3 hg
    by_cases hjl : j < l.length
    · have e3 := rows_at hjl
      have e4 := gr_step (n := n) hjl
      have e5 := ih l[j] (by have := size_at hjl; omega) (by omega)
      obtain ⟨k', l', he⟩ := mk_at l[j]
      rw [he] at e3 e5 e4
      simp only [go_sem, ↓reduceIte, Nat.reduceLT, Nat.reduceEqDiff, Nat.reduceAdd, Nat.reduceMul, Nat.reduceLeDiff, Nat.reduceBEq, Nat.reduceSub, Int.reduceLT, Int.reduceLE, Int.reduceEq, Int.reduceToNat, reduceCtorEq, Nat.lt_irrefl, Nat.le_refl, t7, t8, t9, t3, hjl, e3, Ty.row]
      refine call0 (e5) (by rfl) (by rfl) (by rfl) (by rfl) ?_
      simp only [go_sem, ↓reduceIte, Nat.reduceLT, Nat.reduceEqDiff, Nat.reduceAdd, Nat.reduceMul, Nat.reduceLeDiff, Nat.reduceBEq, Nat.reduceSub, Int.reduceLT, Int.reduceLE, Int.reduceEq, Int.reduceToNat, reduceCtorEq, Nat.lt_irrefl, Nat.le_refl, t3, t9]
      refine IH (j + 1, if n < (Ty.mk k' l').dep then (Ty.mk k' l').dep else n) _ _ _ (by simp only; omega) ⟨by simp only; omega, rfl, t7, t8, ?_, ?_, by rw [← hg, e4]⟩
      · show T.one (C.v (V.s (Value.int IntKind.i64 (IntKind.i64.wrap (j + 1))))) = _
        rw [wrap_succ (by omega)]; rfl
      · by_cases hh : n < (Ty.mk k' l').dep
        · simp only [go_sem, ↓reduceIte, Nat.reduceLT, Nat.reduceEqDiff, Nat.reduceAdd, Nat.reduceMul, Nat.reduceLeDiff, Nat.reduceBEq, Nat.reduceSub, Int.reduceLT, Int.reduceLE, Int.reduceEq, Int.reduceToNat, reduceCtorEq, Nat.lt_irrefl, Nat.le_refl, hh]
        · simp only [go_sem, ↓reduceIte, Nat.reduceLT, Nat.reduceEqDiff, Nat.reduceAdd, Nat.reduceMul, Nat.reduceLeDiff, Nat.reduceBEq, Nat.reduceSub, Int.reduceLT, Int.reduceLE, Int.reduceEq, Int.reduceToNat, reduceCtorEq, Nat.lt_irrefl, Nat.le_refl, hh]
    · obtain rfl : j = l.length := by omega
      rw [List.drop_length] at hg
      have : n = Ty.deps l := by rw [← hg, gr_nil]
      simp only [go_sem, ↓reduceIte, Nat.reduceLT, Nat.reduceEqDiff, Nat.reduceAdd, Nat.reduceMul, Nat.reduceLeDiff, Nat.reduceBEq, Nat.reduceSub, Int.reduceLT, Int.reduceLE, Int.reduceEq, Int.reduceToNat, reduceCtorEq, Nat.lt_irrefl, Nat.le_refl, t7, t8, t9, t3]
      rw [wrap_succ (by omega), this]; rfl
  · refine ⟨Nat.zero_le _, rfl, rfl, ?_, rfl, rfl, ?_⟩
    · show T.one (C.v (V.s (Value.int IntKind.i64 ((Ty.rows l).length : Nat)))) = _
      rw [rows_len]; rfl
    · simp only [List.drop_zero, gr]; split <;> omega

theorem f12_ok (t : Ty) (ht : t.size < 100000) : Ev E false 12 [t.t] [] (if t.ok 6 = true then .tup [tI t.dep, tI 0] else .tup [tI 0, tI 20]) [] := by
  refine ev_of_wp (d := d12) rfl rfl (Nat.le_of_ble_eq_true rfl) ?_
  have h1 := f17_ok t ht
  have h2 := f42_ok t.size t (Nat.le_refl _) (by omega)
  obtain ⟨k, l, rfl⟩ := mk_at t
  simp only [go_sem, ↓reduceIte, Nat.reduceLT, Nat.reduceEqDiff, Nat.reduceAdd, Nat.reduceMul, Nat.reduceLeDiff, Nat.reduceBEq, Nat.reduceSub, Int.reduceLT, Int.reduceLE, Int.reduceEq, Int.reduceToNat, reduceCtorEq, Nat.lt_irrefl, Nat.le_refl, d12, c12, Ty.t, Ty.row]
  refine call0 (h1) (by rfl) (by rfl) (by rfl) (by rfl) ?_
  cases h6 : (Ty.mk k l).ok 6 with
  | false => simp only [go_sem, ↓reduceIte, Nat.reduceLT, Nat.reduceEqDiff, Nat.reduceAdd, Nat.reduceMul, Nat.reduceLeDiff, Nat.reduceBEq, Nat.reduceSub, Int.reduceLT, Int.reduceLE, Int.reduceEq, Int.reduceToNat, reduceCtorEq, Nat.lt_irrefl, Nat.le_refl, h6, Bool.false_eq_true]
  | true =>
    simp only [go_sem, ↓reduceIte, Nat.reduceLT, Nat.reduceEqDiff, Nat.reduceAdd, Nat.reduceMul, Nat.reduceLeDiff, Nat.reduceBEq, Nat.reduceSub, Int.reduceLT, Int.reduceLE, Int.reduceEq, Int.reduceToNat, reduceCtorEq, Nat.lt_irrefl, Nat.le_refl, h6]
    refine call0 (h2) (by rfl) (by rfl) (by rfl) (by rfl) ?_
    simp only [go_sem, ↓reduceIte, Nat.reduceLT, Nat.reduceEqDiff, Nat.reduceAdd, Nat.reduceMul, Nat.reduceLeDiff, Nat.reduceBEq, Nat.reduceSub, Int.reduceLT, Int.reduceLE, Int.reduceEq, Int.reduceToNat, reduceCtorEq, Nat.lt_irrefl, Nat.le_refl]

theorem f19_ok (N : Nat) : ∀ t : Ty, t.size ≤ N → N ≤ 100000 → Ev E false 19 [t.t] [] (tI t.dep) [] := by
  induction N with
  | zero => intro t ht; obtain ⟨k, l, rfl⟩ := mk_at t; simp only [Ty.size] at ht; omega
  | succ N ih =>
  intro t ht hN
  obtain ⟨k, l, rfl⟩ := mk_at t
  simp only [Ty.size] at ht
  have hl := len_size l
  have hds := deps_size l
  refine ev_of_wp (d := d19) rfl rfl (Nat.le_of_ble_eq_true rfl) ?_
  simp only [go_sem, ↓reduceIte, Nat.reduceLT, Nat.reduceEqDiff, Nat.reduceAdd, Nat.reduceMul, Nat.reduceLeDiff, Nat.reduceBEq, Nat.reduceSub, Int.reduceLT, Int.reduceLE, Int.reduceEq, Int.reduceToNat, reduceCtorEq, Nat.lt_irrefl, Nat.le_refl, d19, c19, Ty.t, Ty.row]
  refine loop_ind (I := fun (a : Nat × Nat) tm bx fo => a.1 ≤ l.length ∧ fo = [] ∧ tm 1 = .one (.ref (.loc 1 1) 0) ∧ bx 1 = ⟨1, 29, [.v (.s (.int .i64 k)), .v (.sl (Ty.rows l))]⟩ ∧ tm 4 = tI a.1 ∧ tm 3 = tI a.2 ∧
      gr a.2 (Ty.deps (l.drop a.1)) = Ty.deps l) (μ := fun a => l.length - a.1) ?_ (0, 0) _ _ _ ?_
  · rintro ⟨j, n⟩ tm bx fo ⟨hj, rfl, t1, b1, t4, t3, hg⟩ IH
    simp only at hj t4 t3 hg
    by_cases hjl : j < l.length
    · have e3 := rows_at hjl
      have e4 := gr_step (n := n) hjl
      have e5 := ih l[j] (by have := size_at hjl; omega) (by omega)
      obtain ⟨k', l', he⟩ := mk_at l[j]
      rw [he] at e3 e5 e4
      simp only [go_sem, ↓reduceIte, Nat.reduceLT, Nat.reduceEqDiff, Nat.reduceAdd, Nat.reduceMul, Nat.reduceLeDiff, Nat.reduceBEq, Nat.reduceSub, Int.reduceLT, Int.reduceLE, Int.reduceEq, Int.reduceToNat, reduceCtorEq, Nat.lt_irrefl, Nat.le_refl, t1, b1, t4, t3, rows_len, hjl, e3, Ty.row]
      refine call0 (e5) (by rfl) (by rfl) (by rfl) (by rfl) ?_
      simp only [go_sem, ↓reduceIte, Nat.reduceLT, Nat.reduceEqDiff, Nat.reduceAdd, Nat.reduceMul, Nat.reduceLeDiff, Nat.reduceBEq, Nat.reduceSub, Int.reduceLT, Int.reduceLE, Int.reduceEq, Int.reduceToNat, reduceCtorEq, Nat.lt_irrefl, Nat.le_refl, t3, t4]
      by_cases hh : n < (Ty.mk k' l').dep
      · rw [if_pos hh] at e4
        simp only [go_sem, ↓reduceIte, Nat.reduceLT, Nat.reduceEqDiff, Nat.reduceAdd, Nat.reduceMul, Nat.reduceLeDiff, Nat.reduceBEq, Nat.reduceSub, Int.reduceLT, Int.reduceLE, Int.reduceEq, Int.reduceToNat, reduceCtorEq, Nat.lt_irrefl, Nat.le_refl, hh, t4]
        refine IH (j + 1, (Ty.mk k' l').dep) _ _ _ (by simp only; omega) ⟨by simp only; omega, rfl, t1, b1, ?_, rfl, by rw [← hg, e4]⟩
        show T.one (C.v (V.s (Value.int IntKind.i64 (IntKind.i64.wrap (j + 1))))) = _
        rw [wrap_succ (by omega)]; rfl
      · rw [if_neg hh] at e4
        simp only [go_sem, ↓reduceIte, Nat.reduceLT, Nat.reduceEqDiff, Nat.reduceAdd, Nat.reduceMul, Nat.reduceLeDiff, Nat.reduceBEq, Nat.reduceSub, Int.reduceLT, Int.reduceLE, Int.reduceEq, Int.reduceToNat, reduceCtorEq, Nat.lt_irrefl, Nat.le_refl, hh, t4]
        refine IH (j + 1, n) _ _ _ (by simp only; omega) ⟨by simp only; omega, rfl, t1, b1, ?_, t3, by rw [← hg, e4]⟩
        show T.one (C.v (V.s (Value.int IntKind.i64 (IntKind.i64.wrap (j + 1))))) = _
        rw [wrap_succ (by omega)]; rfl
    · obtain rfl : j = l.length := by omega
      rw [List.drop_length] at hg
      have : n = Ty.deps l := by rw [← hg, gr_nil]
      simp only [go_sem, ↓reduceIte, Nat.reduceLT, Nat.reduceEqDiff, Nat.reduceAdd, Nat.reduceMul, Nat.reduceLeDiff, Nat.reduceBEq, Nat.reduceSub, Int.reduceLT, Int.reduceLE, Int.reduceEq, Int.reduceToNat, reduceCtorEq, Nat.lt_irrefl, Nat.le_refl, t1, b1, t4, t3, rows_len]
      rw [wrap_succ (by omega), this]; rfl
  · refine ⟨Nat.zero_le _, rfl, rfl, rfl, rfl, rfl, ?_⟩
    simp only [List.drop_zero, gr]; split <;> omega

/-! ### The least value -/

def zbase (k : Int) (r : List (List V)) : List V := [.s (.int .i64 k), .s (.int .i64 0), .s (.string ⟨#[]⟩), .s (.complex .f64 0 0), .sl r]
mutual
def Ty.zrow : Ty → List V
  | .mk k l => if k = 9 then zbase 8 [] else if k = 6 then zbase 6 (Ty.zrows l) else zbase k []
def Ty.zrows : List Ty → List (List V)
  | [] => []
  | t :: ts => t.zrow :: Ty.zrows ts
end
def Ty.z (t : Ty) : T := .agg (t.zrow.map .v)

theorem zrow_base (t : Ty) : ∃ k r, t.zrow = zbase k r := by
  cases t; simp only [Ty.zrow]; split
  · exact ⟨_, _, rfl⟩
  · split <;> exact ⟨_, _, rfl⟩

theorem ok_pair {d : Nat} {l : List Ty} (h : Ty.ok d (.mk 6 l) = true) : ∃ a b, l = [a, b] ∧ a.ok (d - 1) = true ∧ b.ok (d - 1) = true := by
  cases d with
  | zero => simp [Ty.ok] at h
  | succ d =>
    simp only [Ty.ok, Bool.and_eq_true, decide_eq_true_eq] at h
    have h2 : l.length = 2 := h.1.2
    match l, h2 with
    | [a, b], _ =>
      simp only [Ty.oks, Bool.and_eq_true] at h
      exact ⟨a, b, rfl, h.2.1, h.2.2.1⟩

theorem f43_ok (d : Nat) : ∀ t : Ty, t.ok d = true → Ev E false 43 [t.t] [] t.z [] := by
  induction d with
  | zero => intro t h; cases t; simp [Ty.ok] at h
  | succ d ih =>
  intro t ht
  obtain ⟨k, l, rfl⟩ := mk_at t
  refine ev_of_wp (d := d43) rfl rfl (Nat.le_of_ble_eq_true rfl) ?_
  by_cases h9 : k = 9
  · subst h9; simp only [go_sem, ↓reduceIte, Nat.reduceLT, Nat.reduceEqDiff, Nat.reduceAdd, Nat.reduceMul, Nat.reduceLeDiff, Nat.reduceBEq, Nat.reduceSub, Int.reduceLT, Int.reduceLE, Int.reduceEq, Int.reduceToNat, reduceCtorEq, Nat.lt_irrefl, Nat.le_refl, d43, c43, Ty.t, Ty.row, Ty.z, Ty.zrow, zbase]
  by_cases h6 : k = 6
  · subst h6
    obtain ⟨a, b, rfl, ha, hb⟩ := ok_pair ht
    obtain ⟨k1, r1, z1⟩ := zrow_base a
    obtain ⟨k2, r2, z2⟩ := zrow_base b
    have e1 := ih a ha
    have e2 := ih b hb
    obtain ⟨ka, la, rfl⟩ := mk_at a
    obtain ⟨kb, lb, rfl⟩ := mk_at b
    rw [Ty.z, z1, zbase] at e1
    rw [Ty.z, z2, zbase] at e2
    simp only [go_sem, ↓reduceIte, Nat.reduceLT, Nat.reduceEqDiff, Nat.reduceAdd, Nat.reduceMul, Nat.reduceLeDiff, Nat.reduceBEq, Nat.reduceSub, Int.reduceLT, Int.reduceLE, Int.reduceEq, Int.reduceToNat, reduceCtorEq, Nat.lt_irrefl, Nat.le_refl, d43, c43, Ty.t, Ty.row, Ty.rows]
    refine call0 (e1) (by rfl) (by rfl) (by rfl) (by rfl) ?_
    simp only [go_sem, ↓reduceIte, Nat.reduceLT, Nat.reduceEqDiff, Nat.reduceAdd, Nat.reduceMul, Nat.reduceLeDiff, Nat.reduceBEq, Nat.reduceSub, Int.reduceLT, Int.reduceLE, Int.reduceEq, Int.reduceToNat, reduceCtorEq, Nat.lt_irrefl, Nat.le_refl]
    refine call0 (e2) (by rfl) (by rfl) (by rfl) (by rfl) ?_
    rw [Ty.z, Ty.zrow, if_neg (by decide), if_pos rfl, Ty.zrows, Ty.zrows, Ty.zrows, z1, z2]
    simp only [go_sem, ↓reduceIte, Nat.reduceLT, Nat.reduceEqDiff, Nat.reduceAdd, Nat.reduceMul, Nat.reduceLeDiff, Nat.reduceBEq, Nat.reduceSub, Int.reduceLT, Int.reduceLE, Int.reduceEq, Int.reduceToNat, reduceCtorEq, Nat.lt_irrefl, Nat.le_refl, zbase]
  simp only [go_sem, ↓reduceIte, Nat.reduceLT, Nat.reduceEqDiff, Nat.reduceAdd, Nat.reduceMul, Nat.reduceLeDiff, Nat.reduceBEq, Nat.reduceSub, Int.reduceLT, Int.reduceLE, Int.reduceEq, Int.reduceToNat, reduceCtorEq, Nat.lt_irrefl, Nat.le_refl, d43, c43, Ty.t, Ty.row, Ty.z, Ty.zrow, h9, h6, zbase]

theorem f21_ok (d : Nat) : ∀ t : Ty, t.ok d = true → Ev E false 21 [t.t] [] t.z [] := by
  induction d with
  | zero => intro t h; cases t; simp [Ty.ok] at h
  | succ d ih =>
  intro t ht
  obtain ⟨k, l, rfl⟩ := mk_at t
  refine ev_of_wp (d := d21) rfl rfl (Nat.le_of_ble_eq_true rfl) ?_
  by_cases h9 : k = 9
  · subst h9; simp only [go_sem, ↓reduceIte, Nat.reduceLT, Nat.reduceEqDiff, Nat.reduceAdd, Nat.reduceMul, Nat.reduceLeDiff, Nat.reduceBEq, Nat.reduceSub, Int.reduceLT, Int.reduceLE, Int.reduceEq, Int.reduceToNat, reduceCtorEq, Nat.lt_irrefl, Nat.le_refl, d21, c21, Ty.t, Ty.row, Ty.z, Ty.zrow, zbase]
  by_cases h6 : k = 6
  · subst h6
    obtain ⟨a, b, rfl, ha, hb⟩ := ok_pair ht
    obtain ⟨k1, r1, z1⟩ := zrow_base a
    obtain ⟨k2, r2, z2⟩ := zrow_base b
    have e1 := ih a ha
    have e2 := ih b hb
    obtain ⟨ka, la, rfl⟩ := mk_at a
    obtain ⟨kb, lb, rfl⟩ := mk_at b
    rw [Ty.z, z1, zbase] at e1
    rw [Ty.z, z2, zbase] at e2
    simp only [go_sem, ↓reduceIte, Nat.reduceLT, Nat.reduceEqDiff, Nat.reduceAdd, Nat.reduceMul, Nat.reduceLeDiff, Nat.reduceBEq, Nat.reduceSub, Int.reduceLT, Int.reduceLE, Int.reduceEq, Int.reduceToNat, reduceCtorEq, Nat.lt_irrefl, Nat.le_refl, d21, c21, Ty.t, Ty.row, Ty.rows]
    refine call0 (e1) (by rfl) (by rfl) (by rfl) (by rfl) ?_
    simp only [go_sem, ↓reduceIte, Nat.reduceLT, Nat.reduceEqDiff, Nat.reduceAdd, Nat.reduceMul, Nat.reduceLeDiff, Nat.reduceBEq, Nat.reduceSub, Int.reduceLT, Int.reduceLE, Int.reduceEq, Int.reduceToNat, reduceCtorEq, Nat.lt_irrefl, Nat.le_refl]
    refine call0 (e2) (by rfl) (by rfl) (by rfl) (by rfl) ?_
    rw [Ty.z, Ty.zrow, if_neg (by decide), if_pos rfl, Ty.zrows, Ty.zrows, Ty.zrows, z1, z2]
    simp only [go_sem, ↓reduceIte, Nat.reduceLT, Nat.reduceEqDiff, Nat.reduceAdd, Nat.reduceMul, Nat.reduceLeDiff, Nat.reduceBEq, Nat.reduceSub, Int.reduceLT, Int.reduceLE, Int.reduceEq, Int.reduceToNat, reduceCtorEq, Nat.lt_irrefl, Nat.le_refl, zbase]
  simp only [go_sem, ↓reduceIte, Nat.reduceLT, Nat.reduceEqDiff, Nat.reduceAdd, Nat.reduceMul, Nat.reduceLeDiff, Nat.reduceBEq, Nat.reduceSub, Int.reduceLT, Int.reduceLE, Int.reduceEq, Int.reduceToNat, reduceCtorEq, Nat.lt_irrefl, Nat.le_refl, d21, c21, Ty.t, Ty.row, Ty.z, Ty.zrow, h9, h6, zbase]

theorem f13_ok (t : Ty) (ht : t.size < 100000) : Ev E false 13 [t.t] [] (if t.ok 6 = true then .tup [t.z, tI 0] else .tup [.agg ((zbase 0 []).map .v), tI 20]) [] := by
  refine ev_of_wp (d := d13) rfl rfl (Nat.le_of_ble_eq_true rfl) ?_
  have h1 := f17_ok t ht
  have h2 := f43_ok 6 t
  obtain ⟨kz, rz, hz⟩ := zrow_base t
  rw [Ty.z, hz, zbase] at h2
  rw [Ty.z, hz]
  obtain ⟨k, l, rfl⟩ := mk_at t
  simp only [go_sem, ↓reduceIte, Nat.reduceLT, Nat.reduceEqDiff, Nat.reduceAdd, Nat.reduceMul, Nat.reduceLeDiff, Nat.reduceBEq, Nat.reduceSub, Int.reduceLT, Int.reduceLE, Int.reduceEq, Int.reduceToNat, reduceCtorEq, Nat.lt_irrefl, Nat.le_refl, d13, c13, Ty.t, Ty.row]
  refine call0 (h1) (by rfl) (by rfl) (by rfl) (by rfl) ?_
  cases h6 : (Ty.mk k l).ok 6 with
  | false => simp only [go_sem, ↓reduceIte, Nat.reduceLT, Nat.reduceEqDiff, Nat.reduceAdd, Nat.reduceMul, Nat.reduceLeDiff, Nat.reduceBEq, Nat.reduceSub, Int.reduceLT, Int.reduceLE, Int.reduceEq, Int.reduceToNat, reduceCtorEq, Nat.lt_irrefl, Nat.le_refl, h6, Bool.false_eq_true, zbase]
  | true =>
    simp only [go_sem, ↓reduceIte, Nat.reduceLT, Nat.reduceEqDiff, Nat.reduceAdd, Nat.reduceMul, Nat.reduceLeDiff, Nat.reduceBEq, Nat.reduceSub, Int.reduceLT, Int.reduceLE, Int.reduceEq, Int.reduceToNat, reduceCtorEq, Nat.lt_irrefl, Nat.le_refl, h6]
    refine call0 (h2 h6) (by rfl) (by rfl) (by rfl) (by rfl) ?_
    simp only [go_sem, ↓reduceIte, Nat.reduceLT, Nat.reduceEqDiff, Nat.reduceAdd, Nat.reduceMul, Nat.reduceLeDiff, Nat.reduceBEq, Nat.reduceSub, Int.reduceLT, Int.reduceLE, Int.reduceEq, Int.reduceToNat, reduceCtorEq, Nat.lt_irrefl, Nat.le_refl, zbase]

end Go.Dev.KC

/- Which types are the same; which values. -/
namespace Go.Dev.KC
open Go Go.Dev Go.Dev.Wk

mutual
def Ty.same : Ty → Ty → Bool
  | .mk k l, .mk k' l' => decide (k = k') && decide (l.length = l'.length) && Ty.sames l l'
def Ty.sames : List Ty → List Ty → Bool
  | [], _ => true
  | _ :: _, [] => true
  | t :: ts, u :: us => t.same u && Ty.sames ts us
end

mutual
theorem same_self : ∀ t : Ty, t.same t = true
  | .mk k l => by simp only [Ty.same, decide_true, Bool.true_and, sames_self l]
theorem sames_self : ∀ l : List Ty, Ty.sames l l = true
  | [] => rfl
  | t :: ts => by simp only [Ty.sames, same_self t, sames_self ts, Bool.and_self]
end

theorem sames_step {l l' : List Ty} {j : Nat} (h : j < l.length) (h' : j < l'.length) : Ty.sames (l.drop j) (l'.drop j) = (l[j].same l'[j] && Ty.sames (l.drop (j + 1)) (l'.drop (j + 1))) := by
  rw [List.drop_eq_getElem_cons h, List.drop_eq_getElem_cons h']; rfl

theorem f70_ok {l l' : List Ty} (hl : l.length < 100000) (hc : ∀ (j : Nat) (h : j < l.length) (h' : j < l'.length), Ev E false 45 [l[j].t, l'[j].t] [] (tB (l[j].same l'[j])) []) :
    Ev E false 70 [.one (.v (.sl (Ty.rows l))), .one (.v (.sl (Ty.rows l'))), .one (.fn (.func 45) [] [])] [] (tB (decide (l.length = l'.length) && Ty.sames l l')) [] := by
  refine ev_of_wp (d := d70) rfl rfl (Nat.le_of_ble_eq_true rfl) ?_
  by_cases hn : l.length = l'.length
  case neg => simp only [go_sem, ↓reduceIte, Nat.reduceLT, Nat.reduceEqDiff, Nat.reduceAdd, Nat.reduceMul, Nat.reduceLeDiff, Nat.reduceBEq, Nat.reduceSub, Int.reduceLT, Int.reduceLE, Int.reduceEq, Int.reduceToNat, reduceCtorEq, Nat.lt_irrefl, Nat.le_refl, d70, c70, rows_len, hn]
  simp only [go_sem, ↓reduceIte, Nat.reduceLT, Nat.reduceEqDiff, Nat.reduceAdd, Nat.reduceMul, Nat.reduceLeDiff, Nat.reduceBEq, Nat.reduceSub, Int.reduceLT, Int.reduceLE, Int.reduceEq, Int.reduceToNat, reduceCtorEq, Nat.lt_irrefl, Nat.le_refl, d70, c70, rows_len, hn]
  rw [← hn]
  refine loop_ind (I := fun (j : Nat) tm bx fo => j ≤ l.length ∧ fo = [] ∧ tm 1 = .one (.v (.sl (Ty.rows l'))) ∧ tm 2 = .one (.fn (.func 45) [] []) ∧ tm 15 = .one (.v (.sl (Ty.rows l))) ∧ tm 16 = tI l.length ∧ tm 17 = tI j ∧
      Ty.sames (l.drop j) (l'.drop j) = Ty.sames l l') (μ := fun j => l.length - j) ?_ 0 _ _ _ ⟨Nat.zero_le _, rfl, rfl, rfl, rfl, rfl, rfl, by simp only [List.drop_zero]⟩
  rintro j tm bx fo ⟨hj, rfl, t1, t2, t15, t16, t17, hs⟩ IH
  by_cases hjl : j < l.length
  · have hjl' : j < l'.length := by omega
    have e3 := rows_at hjl
    have e4 := rows_at hjl'
    have e5 := hc j hjl hjl'
    have e6 := sames_step hjl hjl'
    rw [hs] at e6
    obtain ⟨ka, la, hea⟩ := mk_at l[j]
    obtain ⟨kb, lb, heb⟩ := mk_at l'[j]
    rw [hea] at e3
    rw [heb] at e4
    rw [hea, heb] at e5 e6
    simp only [go_sem, ↓reduceIte, Nat.reduceLT, Nat.reduceEqDiff, Nat.reduceAdd, Nat.reduceMul, Nat.reduceLeDiff, Nat.reduceBEq, Nat.reduceSub, Int.reduceLT, Int.reduceLE, Int.reduceEq, Int.reduceToNat, reduceCtorEq, Nat.lt_irrefl, Nat.le_refl, t1, t2, t15, t16, t17, hjl, e3, e4, Ty.row]
    refine call0 (e5) (by rfl) (by rfl) (by rfl) (by rfl) ?_
    cases hk : (Ty.mk ka la).same (Ty.mk kb lb) with
    | false =>
      rw [hk, Bool.false_and] at e6
      simp only [go_sem, ↓reduceIte, Nat.reduceLT, Nat.reduceEqDiff, Nat.reduceAdd, Nat.reduceMul, Nat.reduceLeDiff, Nat.reduceBEq, Nat.reduceSub, Int.reduceLT, Int.reduceLE, Int.reduceEq, Int.reduceToNat, reduceCtorEq, Nat.lt_irrefl, Nat.le_refl, hk, e6]
    | true =>
      rw [hk, Bool.true_and] at e6
      simp only [go_sem, ↓reduceIte, Nat.reduceLT, Nat.reduceEqDiff, Nat.reduceAdd, Nat.reduceMul, Nat.reduceLeDiff, Nat.reduceBEq, Nat.reduceSub, Int.reduceLT, Int.reduceLE, Int.reduceEq, Int.reduceToNat, reduceCtorEq, Nat.lt_irrefl, Nat.le_refl, hk, t17]
      refine IH (j + 1) _ _ _ (by omega) ⟨by omega, rfl, t1, t2, t15, t16, ?_, e6.symm⟩
      show T.one (C.v (V.s (Value.int IntKind.i64 (IntKind.i64.wrap (j + 1))))) = _
      rw [wrap_succ (by omega)]; rfl
  · obtain rfl : j = l.length := by omega
    rw [List.drop_length] at hs
    have : Ty.sames l l' = true := hs.symm
    simp only [go_sem, ↓reduceIte, Nat.reduceLT, Nat.reduceEqDiff, Nat.reduceAdd, Nat.reduceMul, Nat.reduceLeDiff, Nat.reduceBEq, Nat.reduceSub, Int.reduceLT, Int.reduceLE, Int.reduceEq, Int.reduceToNat, reduceCtorEq, Nat.lt_irrefl, Nat.le_refl, t1, t2, t15, t16, t17, this]

theorem f45_ok (N : Nat) : ∀ t u : Ty, t.size ≤ N → N ≤ 100000 → Ev E false 45 [t.t, u.t] [] (tB (t.same u)) [] := by
  induction N with
  | zero => intro t u ht; obtain ⟨k, l, rfl⟩ := mk_at t; simp only [Ty.size] at ht; omega
  | succ N ih =>
  intro t u ht hN
  obtain ⟨k, l, rfl⟩ := mk_at t
  obtain ⟨k', l', rfl⟩ := mk_at u
  simp only [Ty.size] at ht
  have hl := len_size l
  refine ev_of_wp (d := d45) rfl rfl (Nat.le_of_ble_eq_true rfl) ?_
  by_cases hk : k = k'
  case neg => simp only [go_sem, ↓reduceIte, Nat.reduceLT, Nat.reduceEqDiff, Nat.reduceAdd, Nat.reduceMul, Nat.reduceLeDiff, Nat.reduceBEq, Nat.reduceSub, Int.reduceLT, Int.reduceLE, Int.reduceEq, Int.reduceToNat, reduceCtorEq, Nat.lt_irrefl, Nat.le_refl, d45, c45, Ty.t, Ty.row, hk, Ty.same]
  subst hk
  simp only [go_sem, ↓reduceIte, Nat.reduceLT, Nat.reduceEqDiff, Nat.reduceAdd, Nat.reduceMul, Nat.reduceLeDiff, Nat.reduceBEq, Nat.reduceSub, Int.reduceLT, Int.reduceLE, Int.reduceEq, Int.reduceToNat, reduceCtorEq, Nat.lt_irrefl, Nat.le_refl, d45, c45, Ty.t, Ty.row]
  refine call0 (f70_ok (l := l) (l' := l') (by omega) (fun j h h' => ih _ _ (by have := size_at h; omega) (by omega))) (by rfl) (by rfl) (by rfl) (by rfl) ?_
  simp only [go_sem, ↓reduceIte, Nat.reduceLT, Nat.reduceEqDiff, Nat.reduceAdd, Nat.reduceMul, Nat.reduceLeDiff, Nat.reduceBEq, Nat.reduceSub, Int.reduceLT, Int.reduceLE, Int.reduceEq, Int.reduceToNat, reduceCtorEq, Nat.lt_irrefl, Nat.le_refl, Ty.same]

theorem f15_ok (t u : Ty) (ht : t.size < 100000) (hu : u.size < 100000) : Ev E false 15 [t.t, u.t] [] (tB (t.ok 6 && u.ok 6 && t.same u)) [] := by
  refine ev_of_wp (d := d15) rfl rfl (Nat.le_of_ble_eq_true rfl) ?_
  have h1 := f17_ok t ht
  have h2 := f17_ok u hu
  have h3 := f45_ok t.size t u (Nat.le_refl _) (by omega)
  obtain ⟨k, l, rfl⟩ := mk_at t
  obtain ⟨k', l', rfl⟩ := mk_at u
  simp only [go_sem, ↓reduceIte, Nat.reduceLT, Nat.reduceEqDiff, Nat.reduceAdd, Nat.reduceMul, Nat.reduceLeDiff, Nat.reduceBEq, Nat.reduceSub, Int.reduceLT, Int.reduceLE, Int.reduceEq, Int.reduceToNat, reduceCtorEq, Nat.lt_irrefl, Nat.le_refl, d15, c15, Ty.t, Ty.row]
  refine call0 (h1) (by rfl) (by rfl) (by rfl) (by rfl) ?_
  cases h6 : (Ty.mk k l).ok 6 with
  | false => simp only [go_sem, ↓reduceIte, Nat.reduceLT, Nat.reduceEqDiff, Nat.reduceAdd, Nat.reduceMul, Nat.reduceLeDiff, Nat.reduceBEq, Nat.reduceSub, Int.reduceLT, Int.reduceLE, Int.reduceEq, Int.reduceToNat, reduceCtorEq, Nat.lt_irrefl, Nat.le_refl, h6, Bool.false_eq_true]
  | true =>
    simp only [go_sem, ↓reduceIte, Nat.reduceLT, Nat.reduceEqDiff, Nat.reduceAdd, Nat.reduceMul, Nat.reduceLeDiff, Nat.reduceBEq, Nat.reduceSub, Int.reduceLT, Int.reduceLE, Int.reduceEq, Int.reduceToNat, reduceCtorEq, Nat.lt_irrefl, Nat.le_refl, h6]
    refine call0 (h2) (by rfl) (by rfl) (by rfl) (by rfl) ?_
    cases h7 : (Ty.mk k' l').ok 6 with
    | false => simp only [go_sem, ↓reduceIte, Nat.reduceLT, Nat.reduceEqDiff, Nat.reduceAdd, Nat.reduceMul, Nat.reduceLeDiff, Nat.reduceBEq, Nat.reduceSub, Int.reduceLT, Int.reduceLE, Int.reduceEq, Int.reduceToNat, reduceCtorEq, Nat.lt_irrefl, Nat.le_refl, h7, Bool.false_eq_true]
    | true =>
      simp only [go_sem, ↓reduceIte, Nat.reduceLT, Nat.reduceEqDiff, Nat.reduceAdd, Nat.reduceMul, Nat.reduceLeDiff, Nat.reduceBEq, Nat.reduceSub, Int.reduceLT, Int.reduceLE, Int.reduceEq, Int.reduceToNat, reduceCtorEq, Nat.lt_irrefl, Nat.le_refl, h7]
      refine call0 (h3) (by rfl) (by rfl) (by rfl) (by rfl) ?_
      simp only [go_sem, ↓reduceIte, Nat.reduceLT, Nat.reduceEqDiff, Nat.reduceAdd, Nat.reduceMul, Nat.reduceLeDiff, Nat.reduceBEq, Nat.reduceSub, Int.reduceLT, Int.reduceLE, Int.reduceEq, Int.reduceToNat, reduceCtorEq, Nat.lt_irrefl, Nat.le_refl]

theorem f16_ok (N : Nat) : ∀ t u : Ty, t.size ≤ N → N ≤ 100000 → Ev E false 16 [t.t, u.t] [] (tB (t.same u)) [] := by
  induction N with
  | zero => intro t u ht; obtain ⟨k, l, rfl⟩ := mk_at t; simp only [Ty.size] at ht; omega
  | succ N ih =>
  intro t u ht hN
  obtain ⟨k, l, rfl⟩ := mk_at t
  obtain ⟨k', l', rfl⟩ := mk_at u
  simp only [Ty.size] at ht
  have hl := len_size l
  refine ev_of_wp (d := d16) rfl rfl (Nat.le_of_ble_eq_true rfl) ?_
  by_cases hk : k = k'
  case neg => simp only [go_sem, ↓reduceIte, Nat.reduceLT, Nat.reduceEqDiff, Nat.reduceAdd, Nat.reduceMul, Nat.reduceLeDiff, Nat.reduceBEq, Nat.reduceSub, Int.reduceLT, Int.reduceLE, Int.reduceEq, Int.reduceToNat, reduceCtorEq, Nat.lt_irrefl, Nat.le_refl, d16, c16, Ty.t, Ty.row, hk, Ty.same]
  subst hk
  by_cases hn : l.length = l'.length
  case neg => simp only [go_sem, ↓reduceIte, Nat.reduceLT, Nat.reduceEqDiff, Nat.reduceAdd, Nat.reduceMul, Nat.reduceLeDiff, Nat.reduceBEq, Nat.reduceSub, Int.reduceLT, Int.reduceLE, Int.reduceEq, Int.reduceToNat, reduceCtorEq, Nat.lt_irrefl, Nat.le_refl, d16, c16, Ty.t, Ty.row, rows_len, hn, Ty.same]
  simp only [go_sem, ↓reduceIte, Nat.reduceLT, Nat.reduceEqDiff, Nat.reduceAdd, Nat.reduceMul, Nat.reduceLeDiff, Nat.reduceBEq, Nat.reduceSub, Int.reduceLT, Int.reduceLE, Int.reduceEq, Int.reduceToNat, reduceCtorEq, Nat.lt_irrefl, Nat.le_refl, d16, c16, Ty.t, Ty.row, rows_len, hn]
  have es : (Ty.mk k l).same (.mk k l') = Ty.sames l l' := by simp only [Ty.same, hn, decide_true, Bool.true_and]
  rw [es]
  refine loop_ind (I := fun (j : Nat) tm bx fo => j ≤ l.length ∧ fo = [] ∧ tm 2 = .one (.ref (.loc 2 1) 0) ∧ tm 3 = .one (.ref (.loc 3 1) 0) ∧ tm 5 = tI j ∧ bx 2 = ⟨1, 29, [.v (.s (.int .i64 k)), .v (.sl (Ty.rows l))]⟩ ∧ bx 3 = ⟨1, 29, [.v (.s (.int .i64 k)), .v (.sl (Ty.rows l'))]⟩ ∧
      Ty.sames (l.drop j) (l'.drop j) = Ty.sames l l') (μ := fun j => l.length - j) ?_ 0 _ _ _ ⟨Nat.zero_le _, rfl, rfl, rfl, rfl, rfl, rfl, by simp only [List.drop_zero]⟩
  rintro j tm bx fo ⟨hj, rfl, t2, t3, t5, b2, b3, hs⟩ IH
  by_cases hjl : j < l.length
  · have hjl' : j < l'.length := by omega
    have e3 := rows_at hjl
    have e4 := rows_at hjl'
    have e5 := ih l[j] l'[j] (by have := size_at hjl; omega) (by omega)
    have e6 := sames_step hjl hjl'
    rw [hs] at e6
    obtain ⟨ka, la, hea⟩ := mk_at l[j]
    obtain ⟨kb, lb, heb⟩ := mk_at l'[j]
    rw [hea] at e3
    rw [heb] at e4
    rw [hea, heb] at e5 e6
    simp only [go_sem, ↓reduceIte, Nat.reduceLT, Nat.reduceEqDiff, Nat.reduceAdd, Nat.reduceMul, Nat.reduceLeDiff, Nat.reduceBEq, Nat.reduceSub, Int.reduceLT, Int.reduceLE, Int.reduceEq, Int.reduceToNat, reduceCtorEq, Nat.lt_irrefl, Nat.le_refl, t2, t3, t5, b2, b3, rows_len, hjl, e3, e4, Ty.row]
    refine call0 (e5) (by rfl) (by rfl) (by rfl) (by rfl) ?_
    cases hk : (Ty.mk ka la).same (Ty.mk kb lb) with
    | false =>
      rw [hk, Bool.false_and] at e6
      simp only [go_sem, ↓reduceIte, Nat.reduceLT, Nat.reduceEqDiff, Nat.reduceAdd, Nat.reduceMul, Nat.reduceLeDiff, Nat.reduceBEq, Nat.reduceSub, Int.reduceLT, Int.reduceLE, Int.reduceEq, Int.reduceToNat, reduceCtorEq, Nat.lt_irrefl, Nat.le_refl, hk, e6]
    | true =>
      rw [hk, Bool.true_and] at e6
      simp only [go_sem, ↓reduceIte, Nat.reduceLT, Nat.reduceEqDiff, Nat.reduceAdd, Nat.reduceMul, Nat.reduceLeDiff, Nat.reduceBEq, Nat.reduceSub, Int.reduceLT, Int.reduceLE, Int.reduceEq, Int.reduceToNat, reduceCtorEq, Nat.lt_irrefl, Nat.le_refl, hk, t5]
      refine IH (j + 1) _ _ _ (by omega) ⟨by omega, rfl, t2, t3, ?_, b2, b3, e6.symm⟩
      show T.one (C.v (V.s (Value.int IntKind.i64 (IntKind.i64.wrap (j + 1))))) = _
      rw [wrap_succ (by omega)]; rfl
  · obtain rfl : j = l.length := by omega
    rw [List.drop_length] at hs
    have : Ty.sames l l' = true := hs.symm
    simp only [go_sem, ↓reduceIte, Nat.reduceLT, Nat.reduceEqDiff, Nat.reduceAdd, Nat.reduceMul, Nat.reduceLeDiff, Nat.reduceBEq, Nat.reduceSub, Int.reduceLT, Int.reduceLE, Int.reduceEq, Int.reduceToNat, reduceCtorEq, Nat.lt_irrefl, Nat.le_refl, t2, t3, t5, b2, b3, rows_len, hjl, this]

/-! ### Values -/

theorem z_flat {k : Int} (h : k = 1 ∨ k = 2 ∨ k = 3 ∨ k = 4 ∨ k = 5 ∨ k = 7 ∨ k = 8) : Ev E false 47 [.agg ((zbase k []).map .v), .agg ((zbase k []).map .v)] [] (tI 0) [] := by
  rcases h with rfl | rfl | rfl | rfl | rfl | rfl | rfl <;> exact ⟨40, by kernel_rfl⟩

theorem f75_self (a : Int) : Ev E false 75 [tI a, tI a] [] (tI 0) [] := by
  refine ev_of_wp (d := d75) rfl rfl (Nat.le_of_ble_eq_true rfl) ?_
  have : (a < a) = False := by simp
  simp only [go_sem, ↓reduceIte, Nat.reduceLT, Nat.reduceEqDiff, Nat.reduceAdd, Nat.reduceMul, Nat.reduceLeDiff, Nat.reduceBEq, Nat.reduceSub, Int.reduceLT, Int.reduceLE, Int.reduceEq, Int.reduceToNat, reduceCtorEq, Nat.lt_irrefl, Nat.le_refl, d75, c75, this]

theorem z_kind {d : Nat} {k : Int} {l : List Ty} (h : Ty.ok d (.mk k l) = true) (h9 : ¬ k = 9) (h6 : ¬ k = 6) : k = 1 ∨ k = 2 ∨ k = 3 ∨ k = 4 ∨ k = 5 ∨ k = 7 ∨ k = 8 := by
  cases d with
  | zero => simp [Ty.ok] at h
  | succ d =>
    simp only [Ty.ok, Bool.and_eq_true, Bool.not_eq_true', decide_eq_false_iff_not] at h
    rcases kinds k with h | h | h | h | h | h | h | h | ⟨h1, h2, h3, h4, h5, h6, h7, h9⟩
    any_goals omega
    exact absurd (by simp only [wordB, h1, h2, h3, h4, h5, h6, h7, h9, if_false]) h.1.1

theorem f47_ok (d : Nat) : ∀ t : Ty, t.ok d = true → Ev E false 47 [t.z, t.z] [] (tI 0) [] := by
  induction d with
  | zero => intro t h; cases t; simp [Ty.ok] at h
  | succ d ih =>
  intro t ht
  obtain ⟨k, l, rfl⟩ := mk_at t
  by_cases h9 : k = 9
  · subst h9; rw [Ty.z, Ty.zrow, if_pos rfl]; exact z_flat (by simp)
  by_cases h6 : k = 6
  · subst h6
    obtain ⟨a, b, rfl, ha, hb⟩ := ok_pair ht
    have e1 := ih a ha
    have e2 := ih b hb
    obtain ⟨k1, r1, z1⟩ := zrow_base a
    obtain ⟨k2, r2, z2⟩ := zrow_base b
    rw [Ty.z, z1, zbase] at e1
    rw [Ty.z, z2, zbase] at e2
    refine ev_of_wp (d := d47) rfl rfl (Nat.le_of_ble_eq_true rfl) ?_
    rw [Ty.z, Ty.zrow, if_neg (by decide), if_pos rfl, Ty.zrows, Ty.zrows, Ty.zrows, z1, z2]
    simp only [go_sem, ↓reduceIte, Nat.reduceLT, Nat.reduceEqDiff, Nat.reduceAdd, Nat.reduceMul, Nat.reduceLeDiff, Nat.reduceBEq, Nat.reduceSub, Int.reduceLT, Int.reduceLE, Int.reduceEq, Int.reduceToNat, reduceCtorEq, Nat.lt_irrefl, Nat.le_refl, d47, c47, zbase]
    rw [Wk.wp_loop]
    have w1 : IntKind.i64.wrap 1 = 1 := by decide
    have w2 : IntKind.i64.wrap 2 = 2 := by decide
    simp only [go_sem, ↓reduceIte, Nat.reduceLT, Nat.reduceEqDiff, Nat.reduceAdd, Nat.reduceMul, Nat.reduceLeDiff, Nat.reduceBEq, Nat.reduceSub, Int.reduceLT, Int.reduceLE, Int.reduceEq, Int.reduceToNat, reduceCtorEq, Nat.lt_irrefl, Nat.le_refl, ncast0, ncast2]
    refine call0 (e1) (by rfl) (by rfl) (by rfl) (by rfl) ?_
    simp only [go_sem, ↓reduceIte, Nat.reduceLT, Nat.reduceEqDiff, Nat.reduceAdd, Nat.reduceMul, Nat.reduceLeDiff, Nat.reduceBEq, Nat.reduceSub, Int.reduceLT, Int.reduceLE, Int.reduceEq, Int.reduceToNat, reduceCtorEq, Nat.lt_irrefl, Nat.le_refl, ncast0, ncast2]
    rw [Wk.wp_loop]
    simp only [go_sem, ↓reduceIte, Nat.reduceLT, Nat.reduceEqDiff, Nat.reduceAdd, Nat.reduceMul, Nat.reduceLeDiff, Nat.reduceBEq, Nat.reduceSub, Int.reduceLT, Int.reduceLE, Int.reduceEq, Int.reduceToNat, reduceCtorEq, Nat.lt_irrefl, Nat.le_refl, ncast0, ncast2, w1, Int.reduceAdd]
    refine call0 (e2) (by rfl) (by rfl) (by rfl) (by rfl) ?_
    simp only [go_sem, ↓reduceIte, Nat.reduceLT, Nat.reduceEqDiff, Nat.reduceAdd, Nat.reduceMul, Nat.reduceLeDiff, Nat.reduceBEq, Nat.reduceSub, Int.reduceLT, Int.reduceLE, Int.reduceEq, Int.reduceToNat, reduceCtorEq, Nat.lt_irrefl, Nat.le_refl, ncast0, ncast2]
    rw [Wk.wp_loop]
    simp only [go_sem, ↓reduceIte, Nat.reduceLT, Nat.reduceEqDiff, Nat.reduceAdd, Nat.reduceMul, Nat.reduceLeDiff, Nat.reduceBEq, Nat.reduceSub, Int.reduceLT, Int.reduceLE, Int.reduceEq, Int.reduceToNat, reduceCtorEq, Nat.lt_irrefl, Nat.le_refl, ncast0, ncast2, w1, w2, Int.reduceAdd]
    refine call0 (f75_self 2) (by rfl) (by rfl) (by rfl) (by rfl) ?_
    simp only [go_sem, ↓reduceIte, Nat.reduceLT, Nat.reduceEqDiff, Nat.reduceAdd, Nat.reduceMul, Nat.reduceLeDiff, Nat.reduceBEq, Nat.reduceSub, Int.reduceLT, Int.reduceLE, Int.reduceEq, Int.reduceToNat, reduceCtorEq, Nat.lt_irrefl, Nat.le_refl]
  have hk := z_kind ht h9 h6
  rw [Ty.z, Ty.zrow, if_neg h9, if_neg h6]
  exact z_flat hk

end Go.Dev.KC

/- The text of a type. -/
namespace Go.Dev.KC
open Go Go.Dev Go.Dev.Wk

theorem f20_ok (d : Nat) (t : Ty) (h : t.ok d = true) : Ev E false 20 [t.z, t.z] [] (tB true) [] := by
  have e := f47_ok d t h
  obtain ⟨k, r, z⟩ := zrow_base t
  rw [Ty.z, z, zbase] at e ⊢
  refine ev_of_wp (d := d20) rfl rfl (Nat.le_of_ble_eq_true rfl) ?_
  simp only [go_sem, ↓reduceIte, Nat.reduceLT, Nat.reduceEqDiff, Nat.reduceAdd, Nat.reduceMul, Nat.reduceLeDiff, Nat.reduceBEq, Nat.reduceSub, Int.reduceLT, Int.reduceLE, Int.reduceEq, Int.reduceToNat, reduceCtorEq, Nat.lt_irrefl, Nat.le_refl, d20, c20]
  refine call0 (e) (by rfl) (by rfl) (by rfl) (by rfl) ?_
  simp only [go_sem, ↓reduceIte, Nat.reduceLT, Nat.reduceEqDiff, Nat.reduceAdd, Nat.reduceMul, Nat.reduceLeDiff, Nat.reduceBEq, Nat.reduceSub, Int.reduceLT, Int.reduceLE, Int.reduceEq, Int.reduceToNat, reduceCtorEq, Nat.lt_irrefl, Nat.le_refl]

def lp : ByteArray := ⟨#[40]⟩
def rp : ByteArray := ⟨#[41]⟩
def cm : ByteArray := ⟨#[44]⟩

mutual
def Ty.sh : Ty → ByteArray
  | .mk k l => wordB k ++ Ty.shl l
def Ty.shl : List Ty → ByteArray
  | [] => ⟨#[]⟩
  | t :: ts => lp ++ t.sh ++ (Ty.shs ts ++ rp)
def Ty.shs : List Ty → ByteArray
  | [] => ⟨#[]⟩
  | t :: ts => cm ++ t.sh ++ Ty.shs ts
end

theorem word_size (k : Int) : (wordB k).size ≤ 6 := by
  rcases kinds k with rfl | rfl | rfl | rfl | rfl | rfl | rfl | rfl | ⟨h1, h2, h3, h4, h5, h6, h7, h9⟩
  any_goals decide
  simp only [wordB, h1, h2, h3, h4, h5, h6, h7, h9, if_false]; decide

mutual
theorem sh_size : ∀ t : Ty, (t.sh).size + 1 ≤ 9 * t.size
  | .mk k l => by
    have := word_size k
    have := shl_size l
    simp only [Ty.sh, Ty.size, size_append]; omega
theorem shl_size : ∀ l : List Ty, (Ty.shl l).size ≤ 9 * Ty.sizes l + 2
  | [] => by simp only [Ty.shl]; exact Nat.zero_le _
  | t :: ts => by
    have := sh_size t
    have := shs_size ts
    have h1 : lp.size = 1 := rfl
    have h2 : rp.size = 1 := rfl
    simp only [Ty.shl, Ty.sizes, size_append]; omega
theorem shs_size : ∀ l : List Ty, (Ty.shs l).size ≤ 9 * Ty.sizes l
  | [] => by simp only [Ty.shs]; exact Nat.zero_le _
  | t :: ts => by
    have := sh_size t
    have := shs_size ts
    have h1 : cm.size = 1 := rfl
    simp only [Ty.shs, Ty.sizes, size_append]; omega
end

/-- What of the text is still to come, at the j-th argument. -/
def rest (l : List Ty) : Nat → ByteArray
  | 0 => match l with
    | [] => ⟨#[]⟩
    | t :: ts => t.sh ++ Ty.shs ts
  | j + 1 => Ty.shs (l.drop (j + 1))

theorem rest_zero {l : List Ty} (h : 0 < l.length) : rest l 0 = l[0].sh ++ rest l 1 := by
  cases l with
  | nil => simp at h
  | cons a l => rfl

theorem rest_succ {l : List Ty} {j : Nat} (h : j + 1 < l.length) : rest l (j + 1) = cm ++ l[j + 1].sh ++ rest l (j + 2) := by
  simp only [rest]; rw [List.drop_eq_getElem_cons h]; rfl

theorem rest_end {l : List Ty} (h : 0 < l.length) : rest l l.length = ⟨#[]⟩ := by
  obtain ⟨j, hj⟩ : ∃ j, l.length = j + 1 := ⟨l.length - 1, by omega⟩
  rw [hj]; simp only [rest]; rw [List.drop_of_length_le (by omega)]; rfl

theorem rest_size (l : List Ty) (j : Nat) : (rest l j).size ≤ 9 * Ty.sizes l := by
  cases j with
  | zero =>
    cases l with
    | nil => exact Nat.zero_le _
    | cons a l =>
      have := sh_size a
      have := shs_size l
      simp only [rest, Ty.sizes, size_append, List.length_cons]; omega
  | succ j =>
    have h1 := shs_size (l.drop (j + 1))
    have h2 : ∀ (l : List Ty) n, Ty.sizes (l.drop n) ≤ Ty.sizes l := by
      intro l n
      induction l generalizing n with
      | nil => simp
      | cons a l ih => cases n with
        | zero => exact Nat.le_refl _
        | succ n => have := ih n; simp only [List.drop_succ_cons, Ty.sizes]; omega
    have h2 := h2 l (j + 1)
    have h3 : (l.drop (j + 1)).length ≤ l.length := by rw [List.length_drop]; omega
    simp only [rest]; omega

theorem shl_rest {l : List Ty} (h : 0 < l.length) : Ty.shl l = lp ++ (rest l 0 ++ rp) := by
  cases l with
  | nil => simp at h
  | cons a l => simp only [Ty.shl, rest, ByteArray.append_assoc]

theorem f18_ok (N : Nat) : ∀ t : Ty, t.size ≤ N → N ≤ 100000 → Ev E false 18 [t.t] [] (tS t.sh) [] := by
  induction N with
  | zero => intro t ht; obtain ⟨k, l, rfl⟩ := mk_at t; simp only [Ty.size] at ht; omega
  | succ N ih =>
  intro t ht hN
  obtain ⟨k, l, rfl⟩ := mk_at t
  simp only [Ty.size] at ht
  have hl := len_size l
  have hw := word_size k
  have hr := shl_size l
  refine ev_of_wp (d := d18) rfl rfl (Nat.le_of_ble_eq_true rfl) ?_
  simp only [go_sem, ↓reduceIte, Nat.reduceLT, Nat.reduceEqDiff, Nat.reduceAdd, Nat.reduceMul, Nat.reduceLeDiff, Nat.reduceBEq, Nat.reduceSub, Int.reduceLT, Int.reduceLE, Int.reduceEq, Int.reduceToNat, reduceCtorEq, Nat.lt_irrefl, Nat.le_refl, d18, c18, Ty.t, Ty.row]
  refine call0 (f38_ok k) (by rfl) (by rfl) (by rfl) (by rfl) ?_
  by_cases hn : l = []
  · subst hn
    simp only [go_sem, ↓reduceIte, Nat.reduceLT, Nat.reduceEqDiff, Nat.reduceAdd, Nat.reduceMul, Nat.reduceLeDiff, Nat.reduceBEq, Nat.reduceSub, Int.reduceLT, Int.reduceLE, Int.reduceEq, Int.reduceToNat, reduceCtorEq, Nat.lt_irrefl, Nat.le_refl, Ty.rows, ncast0, Ty.sh, Ty.shl, app_nil]
  have hn0 : 0 < l.length := List.length_pos_iff.2 hn
  have e1 : ((l.length : Int) = 0) = False := by simp; exact hn
  have hlp : (⟨#[40]⟩ : ByteArray) = lp := rfl
  have hrp : (⟨#[41]⟩ : ByteArray) = rp := rfl
  have hcm : (⟨#[44]⟩ : ByteArray) = cm := rfl
  have slp : lp.size = 1 := rfl
  have srp : rp.size = 1 := rfl
  have scm : cm.size = 1 := rfl
  have a1 := bin_sadd (wordB k) lp (by rw [slp]; omega)
  simp only [go_sem, ↓reduceIte, Nat.reduceLT, Nat.reduceEqDiff, Nat.reduceAdd, Nat.reduceMul, Nat.reduceLeDiff, Nat.reduceBEq, Nat.reduceSub, Int.reduceLT, Int.reduceLE, Int.reduceEq, Int.reduceToNat, reduceCtorEq, Nat.lt_irrefl, Nat.le_refl, rows_len, e1, hlp, a1]
  refine loop_ind (I := fun (a : Nat × ByteArray) tm bx fo => a.1 ≤ l.length ∧ fo = [] ∧ tm 1 = .one (.ref (.loc 1 1) 0) ∧ bx 1 = ⟨1, 29, [.v (.s (.int .i64 k)), .v (.sl (Ty.rows l))]⟩ ∧ tm 4 = tI a.1 ∧ tm 3 = tS a.2 ∧
      a.2 ++ rest l a.1 = wordB k ++ lp ++ rest l 0) (μ := fun a => l.length - a.1) ?_ (0, wordB k ++ lp) _ _ _ ⟨Nat.zero_le _, rfl, rfl, rfl, rfl, rfl, rfl⟩
  rintro ⟨j, s⟩ tm bx fo ⟨hj, rfl, t1, b1, t4, t3, hs⟩ IH
  simp only at hj t4 t3 hs
  have hsz : s.size ≤ 2000000 := by
    have := congrArg ByteArray.size hs
    have h0 := rest_size l 0
    simp only [size_append, slp] at this
    omega
  by_cases hjl : j < l.length
  · have e3 := rows_at hjl
    have e5 := ih l[j] (by have := size_at hjl; omega) (by omega)
    have e6 := sh_size l[j]
    have e7 := size_at hjl
    have e8 : ((0 : Int) < (j : Int)) = (0 < j) := by simp
    cases j with
    | zero =>
      rw [rest_zero hjl] at hs
      obtain ⟨k', l', he⟩ := mk_at l[0]
      rw [he] at e3 e5 e6 e7 hs
      have a2 := bin_sadd s (Ty.mk k' l').sh (by omega)
      rw [← ByteArray.append_assoc] at hs
      simp only [go_sem, ↓reduceIte, Nat.reduceLT, Nat.reduceEqDiff, Nat.reduceAdd, Nat.reduceMul, Nat.reduceLeDiff, Nat.reduceBEq, Nat.reduceSub, Int.reduceLT, Int.reduceLE, Int.reduceEq, Int.reduceToNat, reduceCtorEq, Nat.lt_irrefl, Nat.le_refl, t1, b1, t4, t3, rows_len, hjl, e3, Ty.row, e8]
      refine call0 (e5) (by rfl) (by rfl) (by rfl) (by rfl) ?_
      simp only [go_sem, ↓reduceIte, Nat.reduceLT, Nat.reduceEqDiff, Nat.reduceAdd, Nat.reduceMul, Nat.reduceLeDiff, Nat.reduceBEq, Nat.reduceSub, Int.reduceLT, Int.reduceLE, Int.reduceEq, Int.reduceToNat, reduceCtorEq, Nat.lt_irrefl, Nat.le_refl, t3, t4, a2]
      refine IH (1, s ++ (Ty.mk k' l').sh) _ _ _ (by simp only; omega) ⟨by simp only; omega, rfl, t1, b1, rfl, rfl, ?_⟩
      simp only [hs, rest_zero hjl, he]
    | succ j =>
      rw [rest_succ hjl] at hs
      obtain ⟨k', l', he⟩ := mk_at l[j + 1]
      rw [he] at e3 e5 e6 e7 hs
      have e9 : 0 < j + 1 := by omega
      have a2 := bin_sadd s cm (by rw [scm]; omega)
      have a3 := bin_sadd (s ++ cm) (Ty.mk k' l').sh (by rw [size_append, scm]; omega)
      simp only [go_sem, ↓reduceIte, Nat.reduceLT, Nat.reduceEqDiff, Nat.reduceAdd, Nat.reduceMul, Nat.reduceLeDiff, Nat.reduceBEq, Nat.reduceSub, Int.reduceLT, Int.reduceLE, Int.reduceEq, Int.reduceToNat, reduceCtorEq, Nat.lt_irrefl, Nat.le_refl, t1, b1, t4, t3, rows_len, hjl, e3, Ty.row, e8, e9, hcm, a2]
      refine call0 (e5) (by rfl) (by rfl) (by rfl) (by rfl) ?_
      simp only [go_sem, ↓reduceIte, Nat.reduceLT, Nat.reduceEqDiff, Nat.reduceAdd, Nat.reduceMul, Nat.reduceLeDiff, Nat.reduceBEq, Nat.reduceSub, Int.reduceLT, Int.reduceLE, Int.reduceEq, Int.reduceToNat, reduceCtorEq, Nat.lt_irrefl, Nat.le_refl, t3, t4, a3]
      refine IH (j + 2, s ++ cm ++ (Ty.mk k' l').sh) _ _ _ (by simp only; omega) ⟨by simp only; omega, rfl, t1, b1, ?_, rfl, ?_⟩
      · show T.one (C.v (V.s (Value.int IntKind.i64 (IntKind.i64.wrap ((j + 1 : Nat) + 1))))) = _
        rw [wrap_succ (by omega)]; rfl
      · rw [← hs]; simp only [ByteArray.append_assoc]
  · obtain rfl : j = l.length := by omega
    rw [rest_end hn0, app_nil] at hs
    have a2 := bin_sadd s rp (by rw [srp]; omega)
    simp only [go_sem, ↓reduceIte, Nat.reduceLT, Nat.reduceEqDiff, Nat.reduceAdd, Nat.reduceMul, Nat.reduceLeDiff, Nat.reduceBEq, Nat.reduceSub, Int.reduceLT, Int.reduceLE, Int.reduceEq, Int.reduceToNat, reduceCtorEq, Nat.lt_irrefl, Nat.le_refl, t1, b1, t4, t3, rows_len, hrp, a2]
    rw [Ty.sh, shl_rest hn0, hs]; simp only [ByteArray.append_assoc]

end Go.Dev.KC

/- A builder, and what is shown with it. -/
namespace Go.Dev.KC
open Go Go.Dev Go.Dev.Wk

/-- A builder: nothing written yet, or these bytes. -/
def obS : Option ByteArray → Ob
  | none => ⟨0, 87, [.v (.s (.pointer none)), .esl]⟩
  | some s => ⟨0, 87, [.ref (.fo 0) 0, .own 5 (byteCells s)]⟩

def bld : T := .one (.ref (.fo 0) 0)

theorem f91_new : Ev E false 91 [bld] [obS none] (.tup []) [⟨0, 87, [.ref (.fo 0) 0, .esl]⟩] := by
  refine ev_of_wp (d := d91) rfl rfl (Nat.le_of_ble_eq_true rfl) ?_
  simp only [go_sem, ↓reduceIte, Nat.reduceLT, Nat.reduceEqDiff, Nat.reduceAdd, Nat.reduceMul, Nat.reduceLeDiff, Nat.reduceBEq, Nat.reduceSub, Int.reduceLT, Int.reduceLE, Int.reduceEq, Int.reduceToNat, reduceCtorEq, Nat.lt_irrefl, Nat.le_refl, d91, c91, obS, bld]
  refine callX (E := E) (k := 110) (by rfl) (by rfl) ?_
  simp only [go_sem, ↓reduceIte, Nat.reduceLT, Nat.reduceEqDiff, Nat.reduceAdd, Nat.reduceMul, Nat.reduceLeDiff, Nat.reduceBEq, Nat.reduceSub, Int.reduceLT, Int.reduceLE, Int.reduceEq, Int.reduceToNat, reduceCtorEq, Nat.lt_irrefl, Nat.le_refl]

theorem f91_old (s : ByteArray) : Ev E false 91 [bld] [obS (some s)] (.tup []) [obS (some s)] := by
  refine ev_of_wp (d := d91) rfl rfl (Nat.le_of_ble_eq_true rfl) ?_
  simp only [go_sem, ↓reduceIte, Nat.reduceLT, Nat.reduceEqDiff, Nat.reduceAdd, Nat.reduceMul, Nat.reduceLeDiff, Nat.reduceBEq, Nat.reduceSub, Int.reduceLT, Int.reduceLE, Int.reduceEq, Int.reduceToNat, reduceCtorEq, Nat.lt_irrefl, Nat.le_refl, d91, c91, obS, bld]

theorem f68_new (s : ByteArray) (h : ¬ s = ⟨#[]⟩) (hs : s.size < 100000000) : Ev E false 68 [bld, tS s] [obS none] (.tup [tI s.size, .one (.v (.s .nilIface))]) [obS (some s)] := by
  refine ev_of_wp (d := d68) rfl rfl (Nat.le_of_ble_eq_true rfl) ?_
  simp only [go_sem, ↓reduceIte, Nat.reduceLT, Nat.reduceEqDiff, Nat.reduceAdd, Nat.reduceMul, Nat.reduceLeDiff, Nat.reduceBEq, Nat.reduceSub, Int.reduceLT, Int.reduceLE, Int.reduceEq, Int.reduceToNat, reduceCtorEq, Nat.lt_irrefl, Nat.le_refl, d68, c68, obS, bld]
  refine callK (by rfl) ?_
  simp only [go_sem, ↓reduceIte, Nat.reduceLT, Nat.reduceEqDiff, Nat.reduceAdd, Nat.reduceMul, Nat.reduceLeDiff, Nat.reduceBEq, Nat.reduceSub, Int.reduceLT, Int.reduceLE, Int.reduceEq, Int.reduceToNat, reduceCtorEq, Nat.lt_irrefl, Nat.le_refl]
  refine callE (f91_new) (by rfl) ?_
  simp only [go_sem, ↓reduceIte, Nat.reduceLT, Nat.reduceEqDiff, Nat.reduceAdd, Nat.reduceMul, Nat.reduceLeDiff, Nat.reduceBEq, Nat.reduceSub, Int.reduceLT, Int.reduceLE, Int.reduceEq, Int.reduceToNat, reduceCtorEq, Nat.lt_irrefl, Nat.le_refl, bytes_sz, bytes_nil, h, appEsl, bytes_len, okB (n := s.size) (b := 1) (by omega)]

theorem f68_old (s0 s : ByteArray) (h0 : s0.size < 100000000) (hs : s.size < 100000000) : Ev E false 68 [bld, tS s] [obS (some s0)] (.tup [tI s.size, .one (.v (.s .nilIface))]) [obS (some (s0 ++ s))] := by
  refine ev_of_wp (d := d68) rfl rfl (Nat.le_of_ble_eq_true rfl) ?_
  simp only [go_sem, ↓reduceIte, Nat.reduceLT, Nat.reduceEqDiff, Nat.reduceAdd, Nat.reduceMul, Nat.reduceLeDiff, Nat.reduceBEq, Nat.reduceSub, Int.reduceLT, Int.reduceLE, Int.reduceEq, Int.reduceToNat, reduceCtorEq, Nat.lt_irrefl, Nat.le_refl, d68, c68, obS, bld]
  refine callK (by rfl) ?_
  simp only [go_sem, ↓reduceIte, Nat.reduceLT, Nat.reduceEqDiff, Nat.reduceAdd, Nat.reduceMul, Nat.reduceLeDiff, Nat.reduceBEq, Nat.reduceSub, Int.reduceLT, Int.reduceLE, Int.reduceEq, Int.reduceToNat, reduceCtorEq, Nat.lt_irrefl, Nat.le_refl]
  refine callE (f91_old s0) (by rfl) ?_
  simp only [go_sem, ↓reduceIte, Nat.reduceLT, Nat.reduceEqDiff, Nat.reduceAdd, Nat.reduceMul, Nat.reduceLeDiff, Nat.reduceBEq, Nat.reduceSub, Int.reduceLT, Int.reduceLE, Int.reduceEq, Int.reduceToNat, reduceCtorEq, Nat.lt_irrefl, Nat.le_refl, obS, bytes_sz, appLin, bytes_len, okB (n := s0.size + s.size) (b := 1) (by omega), bytes_append]

theorem f69_old (s0 : ByteArray) (c : UInt8) (h0 : s0.size < 100000000) : Ev E false 69 [bld, .one (.v (.s (.int .u8 c.toNat)))] [obS (some s0)] (.one (.v (.s .nilIface))) [obS (some (s0 ++ ⟨#[c]⟩))] := by
  refine ev_of_wp (d := d69) rfl rfl (Nat.le_of_ble_eq_true rfl) ?_
  simp only [go_sem, ↓reduceIte, Nat.reduceLT, Nat.reduceEqDiff, Nat.reduceAdd, Nat.reduceMul, Nat.reduceLeDiff, Nat.reduceBEq, Nat.reduceSub, Int.reduceLT, Int.reduceLE, Int.reduceEq, Int.reduceToNat, reduceCtorEq, Nat.lt_irrefl, Nat.le_refl, d69, c69, obS, bld]
  refine callK (by rfl) ?_
  simp only [go_sem, ↓reduceIte, Nat.reduceLT, Nat.reduceEqDiff, Nat.reduceAdd, Nat.reduceMul, Nat.reduceLeDiff, Nat.reduceBEq, Nat.reduceSub, Int.reduceLT, Int.reduceLE, Int.reduceEq, Int.reduceToNat, reduceCtorEq, Nat.lt_irrefl, Nat.le_refl]
  refine callE (f91_old s0) (by rfl) ?_
  simp only [go_sem, ↓reduceIte, Nat.reduceLT, Nat.reduceEqDiff, Nat.reduceAdd, Nat.reduceMul, Nat.reduceLeDiff, Nat.reduceBEq, Nat.reduceSub, Int.reduceLT, Int.reduceLE, Int.reduceEq, Int.reduceToNat, reduceCtorEq, Nat.lt_irrefl, Nat.le_refl, obS, bytes_sz, appLin, bytes_len, okB (n := s0.size + 1) (b := 1) (by omega), bytes_append]
  rfl

theorem f41_ok (s : ByteArray) (h : s.size < 100000000) : Ev E false 41 [bld] [obS (some s)] (tS s) [obS (some s)] := by
  refine ev_of_wp (d := d41) rfl rfl (Nat.le_of_ble_eq_true rfl) ?_
  have e : ((s.size : Int) ≤ 9223372036854775807) = True := by simp; omega
  simp only [go_sem, ↓reduceIte, Nat.reduceLT, Nat.reduceEqDiff, Nat.reduceAdd, Nat.reduceMul, Nat.reduceLeDiff, Nat.reduceBEq, Nat.reduceSub, Int.reduceLT, Int.reduceLE, Int.reduceEq, Int.reduceToNat, reduceCtorEq, Nat.lt_irrefl, Nat.le_refl, d41, c41, obS, bld, bytes_len, e, bytes_sz, bytesV_cells]

/-! ### show -/

theorem words_nodup : (words.map fun w => w.1).Nodup := by decide

theorem word_eq {k : Int} {i j : Nat} (h : idxW k words = some i) (hj : j < words.length) : words[j].1 = k ↔ j = i := by
  obtain ⟨hi, hp, _⟩ := List.findIdx?_eq_some_iff_getElem.1 h
  have hp : words[i].1 = k := by simpa using hp
  have := List.getElem_inj (xs := words.map fun w => w.1) (h₀ := by simpa using hj) (h₁ := by simpa using hi) words_nodup
  simp only [List.getElem_map] at this
  rw [← this, hp]

theorem word_text {k : Int} {i : Nat} (h : ¬ wordB k = ⟨#[]⟩) (hi : idxW k words = some i) (hj : i < words.length) : words[i].2.1 = wordB k := by
  obtain ⟨i', w, e1, e2, e3, e4, e5, e6⟩ := idx_known h
  rw [hi] at e1
  cases e1
  rw [List.getElem?_eq_getElem hj] at e2
  cases e2
  exact e5

def oget (o : Option ByteArray) : ByteArray := o.getD ⟨#[]⟩

theorem f68_ok (o : Option ByteArray) (s : ByteArray) (h : ¬ s = ⟨#[]⟩) (h0 : (oget o).size < 100000000) (hs : s.size < 100000000) : Ev E false 68 [bld, tS s] [obS o] (.tup [tI s.size, .one (.v (.s .nilIface))]) [obS (some (oget o ++ s))] := by
  cases o with
  | none => have := f68_new s h hs; rw [oget, Option.getD_none, nil_app]; exact this
  | some s0 => exact f68_old s0 s h0 hs

theorem obS_eq (o : Option ByteArray) : ∃ c1 c2, obS o = ⟨0, 87, [c1, c2]⟩ := by cases o <;> exact ⟨_, _, rfl⟩

/-- The builder's variable in the frame of show. -/
def St (o : Option ByteArray) (bx : Nat → Ob) (fo : List Ob) : Prop := match o with
  | none => fo = [⟨0, 87, [.v (.s (.pointer none)), .esl]⟩]
  | some s => fo = [⟨0, 87, [.ref (.fo 0) 0, .lin 92 (bx 92).g 5 (byteCells s)]⟩]

theorem st_couts {s : ByteArray} {tm : Nat → T} {bx : Nat → Ob} {fo : List Ob} (h : St (some s) bx fo) : couts (ofF 46 93 tm bx fo) [] fo = [obS (some s)] := by
  simp only [St] at h
  subst h
  simp only [go_sem, ↓reduceIte, Nat.reduceLT, Nat.reduceEqDiff, Nat.reduceAdd, Nat.reduceMul, Nat.reduceLeDiff, Nat.reduceBEq, Nat.reduceSub, Int.reduceLT, Int.reduceLE, Int.reduceEq, Int.reduceToNat, reduceCtorEq, Nat.lt_irrefl, Nat.le_refl, obS]

theorem callB {k : Nat} {x r : T} {o : Option ByteArray} {s' : ByteArray} {tm : Nat → T} {bx : Nat → Ob} {fo : List Ob} {os : List DOper} {fs : List Foot} {ks : List Kt} {Q : Ex → Fr → Prop} {dst : Option Nat}
    (hx : refsT x = []) (hx2 : ∀ ks, trT ks x = x) (hr : ∀ ks, backT ks r = some r) (he : E.ext k = none) (h : Ev E false k [bld, x] [obS o] r [obS (some s')]) (hst : St o bx fo)
    (hw : ∀ bx' fo', (∀ i, i ≠ 92 → bx' i = bx i) → St (some s') bx' fo' → WR E [] os (putT (ofF 46 93 tm bx' fo') dst r) [] ks Q) :
    CallC E [] os (ofF 46 93 tm bx fo) fs ks Q dst false (.one (.fn (.func k) [] [])) [bld, x] := by
  cases o with
  | none =>
    simp only [St] at hst
    subst hst
    refine callK he ?_
    simp only [go_sem, ↓reduceIte, Nat.reduceLT, Nat.reduceEqDiff, Nat.reduceAdd, Nat.reduceMul, Nat.reduceLeDiff, Nat.reduceBEq, Nat.reduceSub, Int.reduceLT, Int.reduceLE, Int.reduceEq, Int.reduceToNat, reduceCtorEq, Nat.lt_irrefl, Nat.le_refl, bld, hx, hx2]
    refine callE h (by rfl) ?_
    simp only [go_sem, ↓reduceIte, Nat.reduceLT, Nat.reduceEqDiff, Nat.reduceAdd, Nat.reduceMul, Nat.reduceLeDiff, Nat.reduceBEq, Nat.reduceSub, Int.reduceLT, Int.reduceLE, Int.reduceEq, Int.reduceToNat, reduceCtorEq, Nat.lt_irrefl, Nat.le_refl, obS, hr]
    exact hw _ _ (fun i hi => by simp only [upf, hi, if_false]) rfl
  | some s =>
    simp only [St] at hst
    subst hst
    refine callK he ?_
    simp only [go_sem, ↓reduceIte, Nat.reduceLT, Nat.reduceEqDiff, Nat.reduceAdd, Nat.reduceMul, Nat.reduceLeDiff, Nat.reduceBEq, Nat.reduceSub, Int.reduceLT, Int.reduceLE, Int.reduceEq, Int.reduceToNat, reduceCtorEq, Nat.lt_irrefl, Nat.le_refl, bld, hx, hx2]
    refine callE h (by rfl) ?_
    simp only [go_sem, ↓reduceIte, Nat.reduceLT, Nat.reduceEqDiff, Nat.reduceAdd, Nat.reduceMul, Nat.reduceLeDiff, Nat.reduceBEq, Nat.reduceSub, Int.reduceLT, Int.reduceLE, Int.reduceEq, Int.reduceToNat, reduceCtorEq, Nat.lt_irrefl, Nat.le_refl, obS, hr]
    exact hw _ _ (fun i hi => by simp only [upf, hi, if_false]) rfl

theorem cnt_le (k : Int) : cntN k ≤ 2 := by
  simp only [cntN]; split
  · omega
  · split
    · omega
    · split <;> omega

/-- What of the arguments is still to come, with the mark ahead of it. -/
def remN (l : List Ty) : Nat → ByteArray
  | 0 => if l.length = 0 then ⟨#[]⟩ else lp ++ rest l 0
  | j + 1 => rest l (j + 1)

def markN : Nat → UInt8
  | 0 => 40
  | _ => 44

theorem rem_step {l : List Ty} {j : Nat} (h : j < l.length) : remN l j = (⟨#[markN j]⟩ : ByteArray) ++ l[j].sh ++ remN l (j + 1) := by
  cases j with
  | zero => simp only [remN, rest_zero h]; rw [if_neg (by omega), ← ByteArray.append_assoc]; rfl
  | succ j => simp only [remN, rest_succ h]; rfl

theorem mark_at {j : Nat} (h : j < 2) : (⟨#[40, 44]⟩ : ByteArray)[j]? = some (markN j) := by
  match j, h with
  | 0, _ => rfl
  | 1, _ => rfl

theorem oks_at {d : Nat} {l : List Ty} (h : Ty.oks d l = true) {j : Nat} (hj : j < l.length) : l[j].ok d = true := by
  rw [oks_all, List.all_eq_true] at h
  exact h _ (List.getElem_mem hj)

theorem f40_ok (d : Nat) : ∀ (t : Ty) (o : Option ByteArray), t.ok d = true → t.size ≤ 100000 → (oget o).size + 9 * t.size < 10000000 → Ev E false 40 [bld, t.t] [obS o] (.tup []) [obS (some (oget o ++ t.sh))] := by
  induction d with
  | zero => intro t o h; cases t; simp [Ty.ok] at h
  | succ d ih =>
  intro t o hok ht hs
  obtain ⟨k, l, rfl⟩ := mk_at t
  have hsh := sh_size (.mk k l)
  simp only [Ty.ok, Bool.and_eq_true, Bool.not_eq_true', decide_eq_false_iff_not, decide_eq_true_eq] at hok
  obtain ⟨⟨hw, hc⟩, hoks⟩ := hok
  obtain ⟨i, w, hi, e2, e3, e4, e5, e6⟩ := idx_known hw
  have hi8 : i < words.length := e6
  have hwt := word_text hw hi hi8
  have hws := word_size k
  refine ev_of_wp (d := d40) rfl rfl (Nat.le_of_ble_eq_true rfl) ?_
  simp only [go_sem, ↓reduceIte, Nat.reduceLT, Nat.reduceEqDiff, Nat.reduceAdd, Nat.reduceMul, Nat.reduceLeDiff, Nat.reduceBEq, Nat.reduceSub, Int.reduceLT, Int.reduceLE, Int.reduceEq, Int.reduceToNat, reduceCtorEq, Nat.lt_irrefl, Nat.le_refl, d40, c40, Ty.t, Ty.row, bld]
  refine call0 (f67_ok) (by rfl) (by rfl) (by rfl) (by rfl) ?_
  simp only [go_sem, ↓reduceIte, Nat.reduceLT, Nat.reduceEqDiff, Nat.reduceAdd, Nat.reduceMul, Nat.reduceLeDiff, Nat.reduceBEq, Nat.reduceSub, Int.reduceLT, Int.reduceLE, Int.reduceEq, Int.reduceToNat, reduceCtorEq, Nat.lt_irrefl, Nat.le_refl, List.length_map]
  have hl8 : words.length = 8 := rfl
  refine loop_ind (I := fun (j : Nat) tm bx fo => j ≤ words.length ∧ St (if j ≤ i then o else some (oget o ++ wordB k)) bx fo ∧ tm 0 = bld ∧ tm 3 = .one (.ref (.loc 3 1) 0) ∧ tm 8 = .one (.v (.sl (words.map wrow))) ∧ tm 9 = tI words.length ∧ tm 10 = tI j ∧ bx 3 = ⟨1, 24, [.v (.s (.int .i64 k)), .v (.sl (Ty.rows l))]⟩) (μ := fun j => words.length - j) ?_ 0 _ _ _ ?_
  · rintro j tm bx fo ⟨hj, hst, t0, t3, t8, t9, t10, b3⟩ IH
    by_cases hjl : j < words.length
    · have x3 : (words.map wrow)[j]? = some (wrow words[j]) := by rw [List.getElem?_map, List.getElem?_eq_getElem hjl]; rfl
      have x4 := word_eq hi hjl
      have x5 : j = i → words[j].2.1 = wordB k := fun h => by subst h; exact hwt
      obtain ⟨⟨wk, ws, wa⟩, he⟩ : ∃ w, words[j] = w := ⟨_, rfl⟩
      rw [he] at x3 x4 x5
      simp only [go_sem, ↓reduceIte, Nat.reduceLT, Nat.reduceEqDiff, Nat.reduceAdd, Nat.reduceMul, Nat.reduceLeDiff, Nat.reduceBEq, Nat.reduceSub, Int.reduceLT, Int.reduceLE, Int.reduceEq, Int.reduceToNat, reduceCtorEq, Nat.lt_irrefl, Nat.le_refl, t0, t3, t8, t9, t10, b3, hjl, x3, wrow]
      by_cases hji : j = i
      · obtain rfl : wk = k := x4.2 hji
        obtain rfl : ws = wordB wk := x5 hji
        subst hji
        rw [if_pos (Nat.le_refl _)] at hst
        simp only [go_sem, ↓reduceIte, Nat.reduceLT, Nat.reduceEqDiff, Nat.reduceAdd, Nat.reduceMul, Nat.reduceLeDiff, Nat.reduceBEq, Nat.reduceSub, Int.reduceLT, Int.reduceLE, Int.reduceEq, Int.reduceToNat, reduceCtorEq, Nat.lt_irrefl, Nat.le_refl, t0, t3, t8, t9, t10, b3, bld]
        refine callB (o := o) rfl (fun _ => rfl) (fun _ => rfl) (by rfl) (f68_ok o (wordB wk) hw (by omega) (by omega)) ?_ ?_
        · cases o with
          | none => exact hst
          | some s => exact hst
        · intro bx' fo' hb hst'
          simp only [go_sem, ↓reduceIte, Nat.reduceLT, Nat.reduceEqDiff, Nat.reduceAdd, Nat.reduceMul, Nat.reduceLeDiff, Nat.reduceBEq, Nat.reduceSub, Int.reduceLT, Int.reduceLE, Int.reduceEq, Int.reduceToNat, reduceCtorEq, Nat.lt_irrefl, Nat.le_refl, t0, t10]
          refine IH (j + 1) _ _ _ (by omega) ⟨by omega, ?_, t0, t3, t8, t9, ?_, ?_⟩
          · rw [if_neg (by omega)]; exact hst'
          · show T.one (C.v (V.s (Value.int IntKind.i64 (IntKind.i64.wrap (j + 1))))) = _
            rw [wrap_succ (by omega)]; rfl
          · rw [hb 3 (by decide)]; exact b3
      · have hne : ¬ wk = k := fun h => hji (x4.1 h)
        simp only [go_sem, ↓reduceIte, Nat.reduceLT, Nat.reduceEqDiff, Nat.reduceAdd, Nat.reduceMul, Nat.reduceLeDiff, Nat.reduceBEq, Nat.reduceSub, Int.reduceLT, Int.reduceLE, Int.reduceEq, Int.reduceToNat, reduceCtorEq, Nat.lt_irrefl, Nat.le_refl, t0, t3, t8, t9, t10, b3, hne]
        refine IH (j + 1) _ _ _ (by omega) ⟨by omega, ?_, t0, t3, t8, t9, ?_, b3⟩
        · by_cases h2 : j ≤ i
          · rw [if_pos h2] at hst
            rw [if_pos (by omega)]
            cases o with
            | none => exact hst
            | some s => exact hst
          · rw [if_neg h2] at hst
            rw [if_neg (by omega)]; exact hst
        · show T.one (C.v (V.s (Value.int IntKind.i64 (IntKind.i64.wrap (j + 1))))) = _
          rw [wrap_succ (by omega)]; rfl
    · rw [if_neg (by omega)] at hst
      clear IH
      simp only [go_sem, ↓reduceIte, Nat.reduceLT, Nat.reduceEqDiff, Nat.reduceAdd, Nat.reduceMul, Nat.reduceLeDiff, Nat.reduceBEq, Nat.reduceSub, Int.reduceLT, Int.reduceLE, Int.reduceEq, Int.reduceToNat, reduceCtorEq, Nat.lt_irrefl, Nat.le_refl, t0, t3, t8, t9, t10, b3, hjl, rows_len]
      have hl2 := cnt_le k
      have hsz : (Ty.mk k l).size = 1 + Ty.sizes l := by simp only [Ty.size]
      have hrs := rest_size l 0
      have slp : lp.size = 1 := rfl
      have hrm : (remN l 0).size ≤ 9 * Ty.sizes l + 1 := by
        simp only [remN]; split
        · exact Nat.zero_le _
        · rw [size_append]; omega
      refine loop_ind (I := fun (a : Nat × ByteArray) tm bx fo => a.1 ≤ l.length ∧ St (some a.2) bx fo ∧ tm 0 = bld ∧ tm 3 = .one (.ref (.loc 3 1) 0) ∧ tm 25 = .one (.v (.sl (Ty.rows l))) ∧ tm 26 = tI l.length ∧ tm 27 = tI a.1 ∧ bx 3 = ⟨1, 24, [.v (.s (.int .i64 k)), .v (.sl (Ty.rows l))]⟩ ∧
        a.2.size + 9 * Ty.sizes (l.drop a.1) ≤ (oget o).size + 6 + 9 * Ty.sizes l ∧ a.2 ++ remN l a.1 = oget o ++ wordB k ++ remN l 0) (μ := fun a => l.length - a.1) ?_ (0, oget o ++ wordB k) _ _ _ ?_
      · rintro ⟨j, s⟩ tm bx fo ⟨hj, hst, t0, t3, t25, t26, t27, b3, hbu, hsum⟩ IH
        simp only at hj hst t27 hsum hbu
        have hss : s.size < 20000000 := by omega
        by_cases hjl : j < l.length
        · have x3 := rows_at hjl
          have x4 := mark_at (j := j) (by omega)
          have x5 := oks_at hoks hjl
          have x6 := size_at hjl
          have x7 := rem_step hjl
          have x8 : (⟨#[markN j]⟩ : ByteArray).size = 1 := rfl
          rw [x7] at hsum
          have x11 : Ty.sizes (l.drop j) = l[j].size + Ty.sizes (l.drop (j + 1)) := by rw [List.drop_eq_getElem_cons hjl]; simp only [Ty.sizes]
          have ihj := ih l[j] (some (s ++ ⟨#[markN j]⟩)) x5 (by omega)
          obtain ⟨k', l', he⟩ := mk_at l[j]
          rw [he] at x3 x6 x11 hsum ihj
          have hsh' := sh_size (.mk k' l')
          have x10 : (Ty.mk k' l').size ≤ Ty.sizes l := x6
          simp only [go_sem, ↓reduceIte, Nat.reduceLT, Nat.reduceEqDiff, Nat.reduceAdd, Nat.reduceMul, Nat.reduceLeDiff, Nat.reduceBEq, Nat.reduceSub, Int.reduceLT, Int.reduceLE, Int.reduceEq, Int.reduceToNat, reduceCtorEq, Nat.lt_irrefl, Nat.le_refl, t0, t3, t25, t26, t27, b3, hjl, x3, x4, Ty.row, bld]
          refine callB (o := some s) rfl (fun _ => rfl) (fun _ => rfl) (by rfl) (f69_old s (markN j) (by omega)) hst ?_
          intro bx1 fo1 hb1 hst1
          have b7 : bx1 7 = _ := (hb1 7 (by decide))
          simp only [go_sem, ↓reduceIte, Nat.reduceLT, Nat.reduceEqDiff, Nat.reduceAdd, Nat.reduceMul, Nat.reduceLeDiff, Nat.reduceBEq, Nat.reduceSub, Int.reduceLT, Int.reduceLE, Int.reduceEq, Int.reduceToNat, reduceCtorEq, Nat.lt_irrefl, Nat.le_refl, t0, b7, bld]
          refine callB (x := (Ty.mk k' l').t) (r := .tup []) (o := some (s ++ ⟨#[markN j]⟩)) (s' := s ++ ⟨#[markN j]⟩ ++ (Ty.mk k' l').sh) rfl (fun _ => rfl) (fun _ => rfl) (by rfl) (ihj ?_) hst1 ?_
          · have e : (oget (some (s ++ ⟨#[markN j]⟩))).size = s.size + 1 := by rw [oget, Option.getD_some, size_append, x8]
            rw [e]; omega
          intro bx2 fo2 hb2 hst2
          simp only [go_sem, ↓reduceIte, Nat.reduceLT, Nat.reduceEqDiff, Nat.reduceAdd, Nat.reduceMul, Nat.reduceLeDiff, Nat.reduceBEq, Nat.reduceSub, Int.reduceLT, Int.reduceLE, Int.reduceEq, Int.reduceToNat, reduceCtorEq, Nat.lt_irrefl, Nat.le_refl, t27]
          refine IH (j + 1, s ++ ⟨#[markN j]⟩ ++ (Ty.mk k' l').sh) _ _ _ (by simp only; omega) ⟨by simp only; omega, hst2, t0, t3, t25, t26, ?_, ?_, ?_, ?_⟩
          · show T.one (C.v (V.s (Value.int IntKind.i64 (IntKind.i64.wrap (j + 1))))) = _
            rw [wrap_succ (by omega)]; rfl
          · rw [hb2 3 (by decide), hb1 3 (by decide)]; exact b3
          · simp only [size_append, x8]; omega
          · rw [← hsum]; simp only [ByteArray.append_assoc]
        · obtain rfl : j = l.length := by omega
          clear IH
          by_cases hn : l.length = 0
          · have hg0 : ((0 : Int) < ((l.length : Nat) : Int)) = False := eq_false (by omega)
            obtain rfl : l = [] := List.length_eq_zero_iff.1 hn
            have : s = oget o ++ (Ty.mk k []).sh := by
              simpa only [remN, List.length_nil, if_true, app_nil, Ty.sh, Ty.shl] using hsum
            simp only [go_sem, ↓reduceIte, Nat.reduceLT, Nat.reduceEqDiff, Nat.reduceAdd, Nat.reduceMul, Nat.reduceLeDiff, Nat.reduceBEq, Nat.reduceSub, Int.reduceLT, Int.reduceLE, Int.reduceEq, Int.reduceToNat, reduceCtorEq, Nat.lt_irrefl, Nat.le_refl, t0, t3, t25, t26, t27, b3, rows_len, hg0, ncast0, List.length_nil, st_couts hst, this]
          · have hg0 : ((0 : Int) < ((l.length : Nat) : Int)) = True := eq_true (by omega)
            simp only [go_sem, ↓reduceIte, Nat.reduceLT, Nat.reduceEqDiff, Nat.reduceAdd, Nat.reduceMul, Nat.reduceLeDiff, Nat.reduceBEq, Nat.reduceSub, Int.reduceLT, Int.reduceLE, Int.reduceEq, Int.reduceToNat, reduceCtorEq, Nat.lt_irrefl, Nat.le_refl, t0, t3, t25, t26, t27, b3, rows_len, hg0, bld]
            refine callB (o := some s) rfl (fun _ => rfl) (fun _ => rfl) (by rfl) (f69_old s 41 (by omega)) hst ?_
            intro bx1 fo1 hb1 hst1
            have : s ++ ⟨#[41]⟩ = oget o ++ (Ty.mk k l).sh := by
              have e1 : remN l l.length = ⟨#[]⟩ := by
                obtain ⟨j, hj⟩ : ∃ j, l.length = j + 1 := ⟨l.length - 1, by omega⟩
                have := rest_end (l := l) (by omega)
                rw [hj] at this ⊢; exact this
              rw [e1, app_nil] at hsum
              rw [hsum, remN, if_neg hn, Ty.sh, shl_rest (by omega)]
              simp only [ByteArray.append_assoc]; rfl
            simp only [go_sem, ↓reduceIte, Nat.reduceLT, Nat.reduceEqDiff, Nat.reduceAdd, Nat.reduceMul, Nat.reduceLeDiff, Nat.reduceBEq, Nat.reduceSub, Int.reduceLT, Int.reduceLE, Int.reduceEq, Int.reduceToNat, reduceCtorEq, Nat.lt_irrefl, Nat.le_refl, st_couts hst1, this]
      · exact ⟨Nat.zero_le _, hst, t0, t3, rfl, rfl, rfl, b3, by simp only [size_append, List.drop_zero]; omega, rfl⟩
  · refine ⟨Nat.zero_le _, ?_, rfl, rfl, rfl, rfl, rfl, rfl⟩
    rw [if_pos (Nat.zero_le _)]
    cases o <;> rfl

theorem f11_ok (t : Ty) (ht : t.size < 100000) : Ev E false 11 [t.t] [] (if t.ok 6 = true then .tup [tS t.sh, tI 0] else .tup [tS ⟨#[]⟩, tI 20]) [] := by
  refine ev_of_wp (d := d11) rfl rfl (Nat.le_of_ble_eq_true rfl) ?_
  have h1 := f17_ok t ht
  have h2 := f40_ok 6 t none
  have h3 := sh_size t
  have h4 := f41_ok t.sh (by omega)
  obtain ⟨k, l, rfl⟩ := mk_at t
  simp only [go_sem, ↓reduceIte, Nat.reduceLT, Nat.reduceEqDiff, Nat.reduceAdd, Nat.reduceMul, Nat.reduceLeDiff, Nat.reduceBEq, Nat.reduceSub, Int.reduceLT, Int.reduceLE, Int.reduceEq, Int.reduceToNat, reduceCtorEq, Nat.lt_irrefl, Nat.le_refl, d11, c11, Ty.t, Ty.row]
  refine call0 (h1) (by rfl) (by rfl) (by rfl) (by rfl) ?_
  cases h6 : (Ty.mk k l).ok 6 with
  | false => simp only [go_sem, ↓reduceIte, Nat.reduceLT, Nat.reduceEqDiff, Nat.reduceAdd, Nat.reduceMul, Nat.reduceLeDiff, Nat.reduceBEq, Nat.reduceSub, Int.reduceLT, Int.reduceLE, Int.reduceEq, Int.reduceToNat, reduceCtorEq, Nat.lt_irrefl, Nat.le_refl, h6, Bool.false_eq_true]
  | true =>
    have h5 := h2 h6 (by omega) (by have : (oget none).size = 0 := rfl; omega)
    rw [show oget none = ⟨#[]⟩ from rfl, nil_app] at h5
    simp only [go_sem, ↓reduceIte, Nat.reduceLT, Nat.reduceEqDiff, Nat.reduceAdd, Nat.reduceMul, Nat.reduceLeDiff, Nat.reduceBEq, Nat.reduceSub, Int.reduceLT, Int.reduceLE, Int.reduceEq, Int.reduceToNat, reduceCtorEq, Nat.lt_irrefl, Nat.le_refl, h6]
    refine callK (by rfl) ?_
    simp only [go_sem, ↓reduceIte, Nat.reduceLT, Nat.reduceEqDiff, Nat.reduceAdd, Nat.reduceMul, Nat.reduceLeDiff, Nat.reduceBEq, Nat.reduceSub, Int.reduceLT, Int.reduceLE, Int.reduceEq, Int.reduceToNat, reduceCtorEq, Nat.lt_irrefl, Nat.le_refl]
    refine callE (h5) (by rfl) ?_
    simp only [go_sem, ↓reduceIte, Nat.reduceLT, Nat.reduceEqDiff, Nat.reduceAdd, Nat.reduceMul, Nat.reduceLeDiff, Nat.reduceBEq, Nat.reduceSub, Int.reduceLT, Int.reduceLE, Int.reduceEq, Int.reduceToNat, reduceCtorEq, Nat.lt_irrefl, Nat.le_refl, obS]
    refine callK (by rfl) ?_
    simp only [go_sem, ↓reduceIte, Nat.reduceLT, Nat.reduceEqDiff, Nat.reduceAdd, Nat.reduceMul, Nat.reduceLeDiff, Nat.reduceBEq, Nat.reduceSub, Int.reduceLT, Int.reduceLE, Int.reduceEq, Int.reduceToNat, reduceCtorEq, Nat.lt_irrefl, Nat.le_refl]
    refine callE (h4) (by rfl) ?_
    simp only [go_sem, ↓reduceIte, Nat.reduceLT, Nat.reduceEqDiff, Nat.reduceAdd, Nat.reduceMul, Nat.reduceLeDiff, Nat.reduceBEq, Nat.reduceSub, Int.reduceLT, Int.reduceLE, Int.reduceEq, Int.reduceToNat, reduceCtorEq, Nat.lt_irrefl, Nat.le_refl, obS]

end Go.Dev.KC
