/- What the functions that the laws of the combiners reach compute, each told by the calculus of the evaluator. -/
import Derived.Test.YtkefplbhpbdhdaaCc
import Derived.Test.YtkefplbhpbdhdaaRows
import Derived.WalkKit
import Derived.ProofKit
import Derived.OpenShut
import Derived.ChangeOld
import Derived.Below
set_option linter.all false
/- What may be gone through; what is turned into the program's own types. -/
namespace Go.Dev.CB
open Go Go.Dev Go.Dev.Wk

mutual
def Ty.sm : Ty → Int → Nat → Bool × Int
  | .mk _ l, left, d => if left - 1 < 0 ∨ d = 0 then (false, left - 1) else Ty.sms l (left - 1) (d - 1)
def Ty.sms : List Ty → Int → Nat → Bool × Int
  | [], left, _ => (true, left)
  | t :: ts, left, d => if (t.sm left d).1 = true then Ty.sms ts (t.sm left d).2 d else (false, (t.sm left d).2)
end

mutual
theorem sm_le : ∀ (t : Ty) (left : Int) (d : Nat), 0 ≤ left → (-1 ≤ (t.sm left d).2 ∧ (t.sm left d).2 ≤ left - 1) ∧ ((t.sm left d).1 = true → (t.sm left d).2 = left - t.size ∧ 0 ≤ (t.sm left d).2)
  | .mk k l, left, d, h => by
    by_cases hc : left - 1 < 0 ∨ d = 0
    · simp only [Ty.sm, hc, if_true]; exact ⟨by omega, fun h => by cases h⟩
    · simp only [Ty.sm, hc, if_false]
      have := sms_le l (left - 1) (d - 1) (by omega)
      simp only [Ty.size]
      exact ⟨by omega, fun h => by have := this.2 h; omega⟩
theorem sms_le : ∀ (l : List Ty) (left : Int) (d : Nat), 0 ≤ left → (-1 ≤ (Ty.sms l left d).2 ∧ (Ty.sms l left d).2 ≤ left) ∧ ((Ty.sms l left d).1 = true → (Ty.sms l left d).2 = left - Ty.sizes l ∧ 0 ≤ (Ty.sms l left d).2)
  | [], left, d, h => by simp only [Ty.sms, Ty.sizes]; exact ⟨by omega, fun _ => by omega⟩
  | t :: ts, left, d, h => by
    have h1 := sm_le t left d h
    by_cases hc : (t.sm left d).1 = true
    · have h2 := h1.2 hc
      have h3 := sms_le ts (t.sm left d).2 d (by omega)
      simp only [Ty.sms, hc, if_true, Ty.sizes]
      exact ⟨by omega, fun h => by have := h3.2 h; omega⟩
    · simp only [Ty.sms, hc, Bool.false_eq_true, if_false]; exact ⟨by omega, fun h => by cases h⟩
end

def obL (left : Int) : Ob := ⟨0, 3, [.v (.s (.int .i64 left))]⟩

theorem f50_ok (N : Nat) : ∀ (t : Ty) (left : Int) (d : Nat), t.size ≤ N → 0 ≤ left → left ≤ 20000 → d < 100 → Ev E false 50 [t.t, .one (.ref (.fo 0) 0), tI d] [obL left] (tB (t.sm left d).1) [obL (t.sm left d).2] := by
  induction N with
  | zero => intro t left d ht; obtain ⟨k, l, rfl⟩ := mk_at t; simp only [Ty.size] at ht; omega
  | succ N ih =>
  intro t left d ht h0 h1 hd
  obtain ⟨k, l, rfl⟩ := mk_at t
  simp only [Ty.size] at ht
  refine ev_of_wp (d := d50) rfl rfl (Nat.le_of_ble_eq_true rfl) ?_
  have w1 : IntKind.i64.wrap (left - 1) = left - 1 := wrap_id (by omega) (by omega)
  by_cases hc : left - 1 < 0
  · simp only [go_sem, ↓reduceIte, Nat.reduceLT, Nat.reduceEqDiff, Nat.reduceAdd, Nat.reduceMul, Nat.reduceLeDiff, Nat.reduceBEq, Nat.reduceSub, Int.reduceLT, Int.reduceLE, Int.reduceEq, Int.reduceToNat, reduceCtorEq, Nat.lt_irrefl, Nat.le_refl, d50, c50, Ty.t, Ty.row, obL, w1, hc, Ty.sm, true_or]
  cases d with
  | zero => simp only [go_sem, ↓reduceIte, Nat.reduceLT, Nat.reduceEqDiff, Nat.reduceAdd, Nat.reduceMul, Nat.reduceLeDiff, Nat.reduceBEq, Nat.reduceSub, Int.reduceLT, Int.reduceLE, Int.reduceEq, Int.reduceToNat, reduceCtorEq, Nat.lt_irrefl, Nat.le_refl, d50, c50, Ty.t, Ty.row, obL, w1, hc, Ty.sm, ncast0, or_true]
  | succ d =>
  have e7 : (((d + 1 : Nat) : Int) = 0) = False := by simp; omega
  have e8 : (left - 1 < 0 ∨ d + 1 = 0) = False := by simp; omega
  simp only [go_sem, ↓reduceIte, Nat.reduceLT, Nat.reduceEqDiff, Nat.reduceAdd, Nat.reduceMul, Nat.reduceLeDiff, Nat.reduceBEq, Nat.reduceSub, Int.reduceLT, Int.reduceLE, Int.reduceEq, Int.reduceToNat, reduceCtorEq, Nat.lt_irrefl, Nat.le_refl, d50, c50, Ty.t, Ty.row, obL, w1, hc, e7]
  have et : Ty.sm (.mk k l) left (d + 1) = Ty.sms l (left - 1) d := by rw [Ty.sm, if_neg (by omega)]; rfl
  refine loop_ind (I := fun (a : Nat × Int) tm bx fo => a.1 ≤ l.length ∧ fo = [obL a.2] ∧ 0 ≤ a.2 ∧ a.2 + a.1 ≤ left - 1 ∧ tm 1 = .one (.ref (.fo 0) 0) ∧ tm 2 = tI ((d + 1 : Nat) : Int) ∧ tm 23 = .one (.v (.sl (Ty.rows l))) ∧ tm 24 = tI l.length ∧ tm 25 = tI a.1 ∧
    Ty.sms l (left - 1) d = Ty.sms (l.drop a.1) a.2 d) (μ := fun a => l.length - a.1) ?_ (0, left - 1) _ _ _ ?_
  · rintro ⟨j, lf⟩ tm bx fo ⟨hj, rfl, h3, h4, t1, t2, t23, t24, t25, hs⟩ IH
    simp only at hj h3 h4 t25 hs
    by_cases hjl : j < l.length
    · have e3 := rows_at hjl
      have e5 := ih l[j] lf d (by have := size_at hjl; omega) h3 (by omega) (by omega)
      have e6 := sm_le l[j] lf d h3
      have e9 : Ty.sms (l.drop j) lf d = if (l[j].sm lf d).1 = true then Ty.sms (l.drop (j + 1)) (l[j].sm lf d).2 d else (false, (l[j].sm lf d).2) := by
        rw [List.drop_eq_getElem_cons hjl]; simp only [Ty.sms]
      obtain ⟨k', l', he⟩ := mk_at l[j]
      rw [he] at e3 e5 e6 e9
      simp only [go_sem, ↓reduceIte, Nat.reduceLT, Nat.reduceEqDiff, Nat.reduceAdd, Nat.reduceMul, Nat.reduceLeDiff, Nat.reduceBEq, Nat.reduceSub, Int.reduceLT, Int.reduceLE, Int.reduceEq, Int.reduceToNat, reduceCtorEq, Nat.lt_irrefl, Nat.le_refl, t1, t2, t23, t24, t25, hjl, e3, Ty.row, wrap_pred (show d < 9223372036854775807 by omega), obL]
      refine callK (by rfl) ?_
      simp only [go_sem, ↓reduceIte, Nat.reduceLT, Nat.reduceEqDiff, Nat.reduceAdd, Nat.reduceMul, Nat.reduceLeDiff, Nat.reduceBEq, Nat.reduceSub, Int.reduceLT, Int.reduceLE, Int.reduceEq, Int.reduceToNat, reduceCtorEq, Nat.lt_irrefl, Nat.le_refl]
      refine callE (e5) (by rfl) ?_
      simp only [go_sem, ↓reduceIte, Nat.reduceLT, Nat.reduceEqDiff, Nat.reduceAdd, Nat.reduceMul, Nat.reduceLeDiff, Nat.reduceBEq, Nat.reduceSub, Int.reduceLT, Int.reduceLE, Int.reduceEq, Int.reduceToNat, reduceCtorEq, Nat.lt_irrefl, Nat.le_refl, obL]
      cases hk : ((Ty.mk k' l').sm lf d).1 with
      | false =>
        rw [hk, if_neg (by simp)] at e9
        simp only [go_sem, ↓reduceIte, Nat.reduceLT, Nat.reduceEqDiff, Nat.reduceAdd, Nat.reduceMul, Nat.reduceLeDiff, Nat.reduceBEq, Nat.reduceSub, Int.reduceLT, Int.reduceLE, Int.reduceEq, Int.reduceToNat, reduceCtorEq, Nat.lt_irrefl, Nat.le_refl, hk, et, hs, e9]
      | true =>
        rw [hk, if_pos rfl] at e9
        have := e6.2 hk
        simp only [go_sem, ↓reduceIte, Nat.reduceLT, Nat.reduceEqDiff, Nat.reduceAdd, Nat.reduceMul, Nat.reduceLeDiff, Nat.reduceBEq, Nat.reduceSub, Int.reduceLT, Int.reduceLE, Int.reduceEq, Int.reduceToNat, reduceCtorEq, Nat.lt_irrefl, Nat.le_refl, hk, t25]
        refine IH (j + 1, ((Ty.mk k' l').sm lf d).2) _ _ _ (by simp only; omega) ⟨by simp only; omega, rfl, by simp only; omega, by simp only; omega, t1, t2, t23, t24, ?_, by rw [hs, e9]⟩
        show T.one (C.v (V.s (Value.int IntKind.i64 (IntKind.i64.wrap (j + 1))))) = _
        rw [wrap_succ (by omega)]; rfl
    · obtain rfl : j = l.length := by omega
      rw [List.drop_length] at hs
      simp only [go_sem, ↓reduceIte, Nat.reduceLT, Nat.reduceEqDiff, Nat.reduceAdd, Nat.reduceMul, Nat.reduceLeDiff, Nat.reduceBEq, Nat.reduceSub, Int.reduceLT, Int.reduceLE, Int.reduceEq, Int.reduceToNat, reduceCtorEq, Nat.lt_irrefl, Nat.le_refl, t1, t2, t23, t24, t25, hjl, et, hs, Ty.sms, obL]
  · refine ⟨Nat.zero_le _, rfl, by simp only; omega, by simp only; omega, rfl, rfl, rfl, ?_, rfl, by simp only [List.drop_zero]⟩
    show T.one (C.v (V.s (Value.int IntKind.i64 ((Ty.rows l).length : Nat)))) = _
    rw [rows_len]; rfl

theorem f26_ok (N : Nat) : ∀ t : Ty, t.size ≤ N → N ≤ 100000 → Ev E false 26 [t.t] [] t.t [] := by
  induction N with
  | zero => intro t ht; obtain ⟨k, l, rfl⟩ := mk_at t; simp only [Ty.size] at ht; omega
  | succ N ih =>
  intro t ht hN
  obtain ⟨k, l, rfl⟩ := mk_at t
  simp only [Ty.size] at ht
  have hl := len_size l
  refine ev_of_wp (d := d26) rfl rfl (Nat.le_of_ble_eq_true rfl) ?_
  simp only [go_sem, ↓reduceIte, Nat.reduceLT, Nat.reduceEqDiff, Nat.reduceAdd, Nat.reduceMul, Nat.reduceLeDiff, Nat.reduceBEq, Nat.reduceSub, Int.reduceLT, Int.reduceLE, Int.reduceEq, Int.reduceToNat, reduceCtorEq, Nat.lt_irrefl, Nat.le_refl, d26, c26, Ty.t, Ty.row]
  refine loop_ind (I := fun (j : Nat) tm bx fo => j ≤ l.length ∧ fo = [] ∧ tm 1 = .one (.ref (.loc 1 1) 0) ∧ tm 2 = .one (.ref (.loc 2 1) 0) ∧ tm 7 = .one (.v (.sl (Ty.rows l))) ∧ tm 8 = tI l.length ∧ tm 9 = tI j ∧
      bx 1 = ⟨1, 29, [.v (.s (.int .i64 k)), .v (.sl (Ty.rows l))]⟩ ∧ bx 2 = ⟨1, 24, [.v (.s (.int .i64 0)), .esl]⟩ ∧
      ((j = 0 ∧ tm 3 = .one .esl) ∨ (0 < j ∧ tm 3 = .one (.lin 17 (bx 17).g 24 ((Ty.rows l).take j))))) (μ := fun j => l.length - j) ?_ 0 _ _ _ ?_
  · rintro j tm bx fo ⟨hj, rfl, h1, h2, h7, h8, h9, b1, b2, h3⟩ IH
    by_cases hjl : j < l.length
    · have e3 := rows_at hjl
      have et := take_row hjl
      have e5 := ih l[j] (by have := size_at hjl; omega) (by omega)
      obtain ⟨k', l', he⟩ := mk_at l[j]
      rw [he] at e3 e5 et
      simp only [go_sem, ↓reduceIte, Nat.reduceLT, Nat.reduceEqDiff, Nat.reduceAdd, Nat.reduceMul, Nat.reduceLeDiff, Nat.reduceBEq, Nat.reduceSub, Int.reduceLT, Int.reduceLE, Int.reduceEq, Int.reduceToNat, reduceCtorEq, Nat.lt_irrefl, Nat.le_refl, h1, h2, h7, h8, h9, b1, b2, hjl, e3, Ty.row]
      refine call0 (e5) (by rfl) (by rfl) (by rfl) (by rfl) ?_
      rcases h3 with ⟨rfl, h3⟩ | ⟨hj0, h3⟩
      · simp only [go_sem, ↓reduceIte, Nat.reduceLT, Nat.reduceEqDiff, Nat.reduceAdd, Nat.reduceMul, Nat.reduceLeDiff, Nat.reduceBEq, Nat.reduceSub, Int.reduceLT, Int.reduceLE, Int.reduceEq, Int.reduceToNat, reduceCtorEq, Nat.lt_irrefl, Nat.le_refl, h1, h2, h7, h8, h9, b1, b2, h3, Ty.t, Ty.row, appEsl, okB (n := 0 + 1) (b := 32) (by omega)]
        refine IH 1 _ _ _ (by omega) ⟨by omega, rfl, h1, h2, h7, h8, rfl, b1, b2, Or.inr ⟨by omega, ?_⟩⟩
        rw [et]; rfl
      · simp only [go_sem, ↓reduceIte, Nat.reduceLT, Nat.reduceEqDiff, Nat.reduceAdd, Nat.reduceMul, Nat.reduceLeDiff, Nat.reduceBEq, Nat.reduceSub, Int.reduceLT, Int.reduceLE, Int.reduceEq, Int.reduceToNat, reduceCtorEq, Nat.lt_irrefl, Nat.le_refl, h1, h2, h7, h8, h9, b1, b2, h3, Ty.t, Ty.row, appLin, allSz_take (allSz_rows l) j, take_len hj, okB (n := j + (0 + 1)) (b := 32) (by omega)]
        refine IH (j + 1) _ _ _ (by omega) ⟨by omega, rfl, h1, h2, h7, h8, ?_, b1, b2, Or.inr ⟨by omega, ?_⟩⟩
        · show T.one (C.v (V.s (Value.int IntKind.i64 (IntKind.i64.wrap (j + 1))))) = _
          rw [wrap_succ (by omega)]; rfl
        · rw [et]; rfl
    · obtain rfl : j = l.length := by omega
      simp only [go_sem, ↓reduceIte, Nat.reduceLT, Nat.reduceEqDiff, Nat.reduceAdd, Nat.reduceMul, Nat.reduceLeDiff, Nat.reduceBEq, Nat.reduceSub, Int.reduceLT, Int.reduceLE, Int.reduceEq, Int.reduceToNat, reduceCtorEq, Nat.lt_irrefl, Nat.le_refl, h1, h2, h7, h8, h9, b1, b2]
      rcases h3 with ⟨h0, h3⟩ | ⟨_, h3⟩
      · obtain rfl : l = [] := List.length_eq_zero_iff.1 h0
        simp only [go_sem, ↓reduceIte, Nat.reduceLT, Nat.reduceEqDiff, Nat.reduceAdd, Nat.reduceMul, Nat.reduceLeDiff, Nat.reduceBEq, Nat.reduceSub, Int.reduceLT, Int.reduceLE, Int.reduceEq, Int.reduceToNat, reduceCtorEq, Nat.lt_irrefl, Nat.le_refl, h1, h2, b1, b2, h3, Ty.rows]
      · rw [List.take_of_length_le (by rw [rows_len]; exact Nat.le_refl _)] at h3
        simp only [go_sem, ↓reduceIte, Nat.reduceLT, Nat.reduceEqDiff, Nat.reduceAdd, Nat.reduceMul, Nat.reduceLeDiff, Nat.reduceBEq, Nat.reduceSub, Int.reduceLT, Int.reduceLE, Int.reduceEq, Int.reduceToNat, reduceCtorEq, Nat.lt_irrefl, Nat.le_refl, h1, h2, b1, b2, h3]
  · refine ⟨Nat.zero_le _, rfl, rfl, rfl, rfl, ?_, rfl, rfl, rfl, Or.inl ⟨rfl, rfl⟩⟩
    show T.one (C.v (V.s (Value.int IntKind.i64 ((Ty.rows l).length : Nat)))) = _
    rw [rows_len]; rfl

theorem f30_ok (N : Nat) : ∀ t : Ty, t.size ≤ N → N ≤ 100000 → Ev E false 30 [t.t] [] t.t [] := by
  induction N with
  | zero => intro t ht; obtain ⟨k, l, rfl⟩ := mk_at t; simp only [Ty.size] at ht; omega
  | succ N ih =>
  intro t ht hN
  obtain ⟨k, l, rfl⟩ := mk_at t
  simp only [Ty.size] at ht
  have hl := len_size l
  refine ev_of_wp (d := d30) rfl rfl (Nat.le_of_ble_eq_true rfl) ?_
  simp only [go_sem, ↓reduceIte, Nat.reduceLT, Nat.reduceEqDiff, Nat.reduceAdd, Nat.reduceMul, Nat.reduceLeDiff, Nat.reduceBEq, Nat.reduceSub, Int.reduceLT, Int.reduceLE, Int.reduceEq, Int.reduceToNat, reduceCtorEq, Nat.lt_irrefl, Nat.le_refl, d30, c30, Ty.t, Ty.row]
  refine loop_ind (I := fun (j : Nat) tm bx fo => j ≤ l.length ∧ fo = [] ∧ tm 1 = .one (.ref (.loc 1 1) 0) ∧ tm 2 = .one (.ref (.loc 2 1) 0) ∧ tm 7 = .one (.v (.sl (Ty.rows l))) ∧ tm 8 = tI l.length ∧ tm 9 = tI j ∧
      bx 1 = ⟨1, 24, [.v (.s (.int .i64 k)), .v (.sl (Ty.rows l))]⟩ ∧ bx 2 = ⟨1, 29, [.v (.s (.int .i64 0)), .esl]⟩ ∧
      ((j = 0 ∧ tm 3 = .one .esl) ∨ (0 < j ∧ tm 3 = .one (.lin 17 (bx 17).g 29 ((Ty.rows l).take j))))) (μ := fun j => l.length - j) ?_ 0 _ _ _ ?_
  · rintro j tm bx fo ⟨hj, rfl, h1, h2, h7, h8, h9, b1, b2, h3⟩ IH
    by_cases hjl : j < l.length
    · have e3 := rows_at hjl
      have et := take_row hjl
      have e5 := ih l[j] (by have := size_at hjl; omega) (by omega)
      obtain ⟨k', l', he⟩ := mk_at l[j]
      rw [he] at e3 e5 et
      simp only [go_sem, ↓reduceIte, Nat.reduceLT, Nat.reduceEqDiff, Nat.reduceAdd, Nat.reduceMul, Nat.reduceLeDiff, Nat.reduceBEq, Nat.reduceSub, Int.reduceLT, Int.reduceLE, Int.reduceEq, Int.reduceToNat, reduceCtorEq, Nat.lt_irrefl, Nat.le_refl, h1, h2, h7, h8, h9, b1, b2, hjl, e3, Ty.row]
      refine call0 (e5) (by rfl) (by rfl) (by rfl) (by rfl) ?_
      rcases h3 with ⟨rfl, h3⟩ | ⟨hj0, h3⟩
      · simp only [go_sem, ↓reduceIte, Nat.reduceLT, Nat.reduceEqDiff, Nat.reduceAdd, Nat.reduceMul, Nat.reduceLeDiff, Nat.reduceBEq, Nat.reduceSub, Int.reduceLT, Int.reduceLE, Int.reduceEq, Int.reduceToNat, reduceCtorEq, Nat.lt_irrefl, Nat.le_refl, h1, h2, h7, h8, h9, b1, b2, h3, Ty.t, Ty.row, appEsl, okB (n := 0 + 1) (b := 32) (by omega)]
        refine IH 1 _ _ _ (by omega) ⟨by omega, rfl, h1, h2, h7, h8, rfl, b1, b2, Or.inr ⟨by omega, ?_⟩⟩
        rw [et]; rfl
      · simp only [go_sem, ↓reduceIte, Nat.reduceLT, Nat.reduceEqDiff, Nat.reduceAdd, Nat.reduceMul, Nat.reduceLeDiff, Nat.reduceBEq, Nat.reduceSub, Int.reduceLT, Int.reduceLE, Int.reduceEq, Int.reduceToNat, reduceCtorEq, Nat.lt_irrefl, Nat.le_refl, h1, h2, h7, h8, h9, b1, b2, h3, Ty.t, Ty.row, appLin, allSz_take (allSz_rows l) j, take_len hj, okB (n := j + (0 + 1)) (b := 32) (by omega)]
        refine IH (j + 1) _ _ _ (by omega) ⟨by omega, rfl, h1, h2, h7, h8, ?_, b1, b2, Or.inr ⟨by omega, ?_⟩⟩
        · show T.one (C.v (V.s (Value.int IntKind.i64 (IntKind.i64.wrap (j + 1))))) = _
          rw [wrap_succ (by omega)]; rfl
        · rw [et]; rfl
    · obtain rfl : j = l.length := by omega
      simp only [go_sem, ↓reduceIte, Nat.reduceLT, Nat.reduceEqDiff, Nat.reduceAdd, Nat.reduceMul, Nat.reduceLeDiff, Nat.reduceBEq, Nat.reduceSub, Int.reduceLT, Int.reduceLE, Int.reduceEq, Int.reduceToNat, reduceCtorEq, Nat.lt_irrefl, Nat.le_refl, h1, h2, h7, h8, h9, b1, b2]
      rcases h3 with ⟨h0, h3⟩ | ⟨_, h3⟩
      · obtain rfl : l = [] := List.length_eq_zero_iff.1 h0
        simp only [go_sem, ↓reduceIte, Nat.reduceLT, Nat.reduceEqDiff, Nat.reduceAdd, Nat.reduceMul, Nat.reduceLeDiff, Nat.reduceBEq, Nat.reduceSub, Int.reduceLT, Int.reduceLE, Int.reduceEq, Int.reduceToNat, reduceCtorEq, Nat.lt_irrefl, Nat.le_refl, h1, h2, b1, b2, h3, Ty.rows]
      · rw [List.take_of_length_le (by rw [rows_len]; exact Nat.le_refl _)] at h3
        simp only [go_sem, ↓reduceIte, Nat.reduceLT, Nat.reduceEqDiff, Nat.reduceAdd, Nat.reduceMul, Nat.reduceLeDiff, Nat.reduceBEq, Nat.reduceSub, Int.reduceLT, Int.reduceLE, Int.reduceEq, Int.reduceToNat, reduceCtorEq, Nat.lt_irrefl, Nat.le_refl, h1, h2, b1, b2, h3]
  · refine ⟨Nat.zero_le _, rfl, rfl, rfl, rfl, ?_, rfl, rfl, rfl, Or.inl ⟨rfl, rfl⟩⟩
    show T.one (C.v (V.s (Value.int IntKind.i64 ((Ty.rows l).length : Nat)))) = _
    rw [rows_len]; rfl

/-! ### Combiners -/

inductive Co where
  | mk (nm : ByteArray) (k : Int) (ps : List Co)

mutual
def Co.row : Co → List V
  | .mk nm k ps => [.s (.string nm), .s (.int .i64 k), .sl (Co.rows ps)]
def Co.rows : List Co → List (List V)
  | [] => []
  | t :: ts => t.row :: Co.rows ts
end
mutual
def Co.size : Co → Nat
  | .mk _ _ l => 1 + Co.sizes l
def Co.sizes : List Co → Nat
  | [] => 0
  | t :: ts => t.size + Co.sizes ts
end
def Co.t (t : Co) : T := .agg (t.row.map .v)

theorem crows_map (l : List Co) : Co.rows l = l.map Co.row := by
  induction l with
  | nil => rfl
  | cons a l ih => simp only [Co.rows, ih, List.map_cons]
theorem crows_len (l : List Co) : (Co.rows l).length = l.length := by rw [crows_map, List.length_map]
theorem crows_at {l : List Co} {j : Nat} (h : j < l.length) : (Co.rows l)[j]? = some (l[j].row) := by
  rw [crows_map, List.getElem?_map, List.getElem?_eq_getElem h]; rfl
theorem csize_mem {l : List Co} {t : Co} (h : t ∈ l) : t.size ≤ Co.sizes l := by
  induction l with
  | nil => cases h
  | cons a l ih =>
    simp only [Co.sizes]
    cases h with
    | head => omega
    | tail _ h => have := ih h; omega
theorem csize_at {l : List Co} {j : Nat} (h : j < l.length) : l[j].size ≤ Co.sizes l := csize_mem (List.getElem_mem h)
theorem clen_size (l : List Co) : l.length ≤ Co.sizes l := by
  induction l with
  | nil => exact Nat.zero_le _
  | cons a l ih => cases a; simp only [Co.sizes, Co.size, List.length_cons]; omega
theorem callSz_rows (l : List Co) : allSz 3 (Co.rows l) = true := by
  rw [crows_map]; exact allSz_map (fun t => by cases t; rfl) l
theorem cmk_at (t : Co) : ∃ nm k l, t = .mk nm k l := by cases t; exact ⟨_, _, _, rfl⟩
theorem ctake_row {l : List Co} {j : Nat} (h : j < l.length) : (Co.rows l).take (j + 1) = (Co.rows l).take j ++ [l[j].row] := by
  rw [List.take_add_one, crows_at h]; rfl
theorem ctake_len {l : List Co} {j : Nat} (h : j ≤ l.length) : ((Co.rows l).take j).length = j := by
  rw [List.length_take, crows_len]; omega

mutual
def Co.sm : Co → Int → Nat → Bool × Int
  | .mk _ _ l, left, d => if left - 1 < 0 ∨ d = 0 then (false, left - 1) else Co.sms l (left - 1) (d - 1)
def Co.sms : List Co → Int → Nat → Bool × Int
  | [], left, _ => (true, left)
  | t :: ts, left, d => if (t.sm left d).1 = true then Co.sms ts (t.sm left d).2 d else (false, (t.sm left d).2)
end

mutual
theorem csm_le : ∀ (t : Co) (left : Int) (d : Nat), 0 ≤ left → (-1 ≤ (t.sm left d).2 ∧ (t.sm left d).2 ≤ left - 1) ∧ ((t.sm left d).1 = true → (t.sm left d).2 = left - t.size ∧ 0 ≤ (t.sm left d).2)
  | .mk nm k l, left, d, h => by
    by_cases hc : left - 1 < 0 ∨ d = 0
    · simp only [Co.sm, hc, if_true]; exact ⟨by omega, fun h => by cases h⟩
    · simp only [Co.sm, hc, if_false]
      have := csms_le l (left - 1) (d - 1) (by omega)
      simp only [Co.size]
      exact ⟨by omega, fun h => by have := this.2 h; omega⟩
theorem csms_le : ∀ (l : List Co) (left : Int) (d : Nat), 0 ≤ left → (-1 ≤ (Co.sms l left d).2 ∧ (Co.sms l left d).2 ≤ left) ∧ ((Co.sms l left d).1 = true → (Co.sms l left d).2 = left - Co.sizes l ∧ 0 ≤ (Co.sms l left d).2)
  | [], left, d, h => by simp only [Co.sms, Co.sizes]; exact ⟨by omega, fun _ => by omega⟩
  | t :: ts, left, d, h => by
    have h1 := csm_le t left d h
    by_cases hc : (t.sm left d).1 = true
    · have h2 := h1.2 hc
      have h3 := csms_le ts (t.sm left d).2 d (by omega)
      simp only [Co.sms, hc, if_true, Co.sizes]
      exact ⟨by omega, fun h => by have := h3.2 h; omega⟩
    · simp only [Co.sms, hc, Bool.false_eq_true, if_false]; exact ⟨by omega, fun h => by cases h⟩
end

theorem f49_ok (N : Nat) : ∀ (t : Co) (left : Int) (d : Nat), t.size ≤ N → 0 ≤ left → left ≤ 20000 → d < 100 → Ev E false 49 [t.t, .one (.ref (.fo 0) 0), tI d] [obL left] (tB (t.sm left d).1) [obL (t.sm left d).2] := by
  induction N with
  | zero => intro t left d ht; obtain ⟨nm, k, l, rfl⟩ := cmk_at t; simp only [Co.size] at ht; omega
  | succ N ih =>
  intro t left d ht h0 h1 hd
  obtain ⟨nm, k, l, rfl⟩ := cmk_at t
  simp only [Co.size] at ht
  refine ev_of_wp (d := d49) rfl rfl (Nat.le_of_ble_eq_true rfl) ?_
  have w1 : IntKind.i64.wrap (left - 1) = left - 1 := wrap_id (by omega) (by omega)
  by_cases hc : left - 1 < 0
  · simp only [go_sem, ↓reduceIte, Nat.reduceLT, Nat.reduceEqDiff, Nat.reduceAdd, Nat.reduceMul, Nat.reduceLeDiff, Nat.reduceBEq, Nat.reduceSub, Int.reduceLT, Int.reduceLE, Int.reduceEq, Int.reduceToNat, reduceCtorEq, Nat.lt_irrefl, Nat.le_refl, d49, c49, Co.t, Co.row, obL, w1, hc, Co.sm, true_or]
  cases d with
  | zero => simp only [go_sem, ↓reduceIte, Nat.reduceLT, Nat.reduceEqDiff, Nat.reduceAdd, Nat.reduceMul, Nat.reduceLeDiff, Nat.reduceBEq, Nat.reduceSub, Int.reduceLT, Int.reduceLE, Int.reduceEq, Int.reduceToNat, reduceCtorEq, Nat.lt_irrefl, Nat.le_refl, d49, c49, Co.t, Co.row, obL, w1, hc, Co.sm, ncast0, or_true]
  | succ d =>
  have e7 : (((d + 1 : Nat) : Int) = 0) = False := by simp; omega
  have e8 : (left - 1 < 0 ∨ d + 1 = 0) = False := by simp; omega
  simp only [go_sem, ↓reduceIte, Nat.reduceLT, Nat.reduceEqDiff, Nat.reduceAdd, Nat.reduceMul, Nat.reduceLeDiff, Nat.reduceBEq, Nat.reduceSub, Int.reduceLT, Int.reduceLE, Int.reduceEq, Int.reduceToNat, reduceCtorEq, Nat.lt_irrefl, Nat.le_refl, d49, c49, Co.t, Co.row, obL, w1, hc, e7]
  have et : Co.sm (.mk nm k l) left (d + 1) = Co.sms l (left - 1) d := by rw [Co.sm, if_neg (by omega)]; rfl
  refine loop_ind (I := fun (a : Nat × Int) tm bx fo => a.1 ≤ l.length ∧ fo = [obL a.2] ∧ 0 ≤ a.2 ∧ a.2 + a.1 ≤ left - 1 ∧ tm 1 = .one (.ref (.fo 0) 0) ∧ tm 2 = tI ((d + 1 : Nat) : Int) ∧ tm 23 = .one (.v (.sl (Co.rows l))) ∧ tm 24 = tI l.length ∧ tm 25 = tI a.1 ∧
    Co.sms l (left - 1) d = Co.sms (l.drop a.1) a.2 d) (μ := fun a => l.length - a.1) ?_ (0, left - 1) _ _ _ ?_
  · rintro ⟨j, lf⟩ tm bx fo ⟨hj, rfl, h3, h4, t1, t2, t23, t24, t25, hs⟩ IH
    simp only at hj h3 h4 t25 hs
    by_cases hjl : j < l.length
    · have e3 := crows_at hjl
      have e5 := ih l[j] lf d (by have := csize_at hjl; omega) h3 (by omega) (by omega)
      have e6 := csm_le l[j] lf d h3
      have e9 : Co.sms (l.drop j) lf d = if (l[j].sm lf d).1 = true then Co.sms (l.drop (j + 1)) (l[j].sm lf d).2 d else (false, (l[j].sm lf d).2) := by
        rw [List.drop_eq_getElem_cons hjl]; simp only [Co.sms]
      obtain ⟨nm', k', l', he⟩ := cmk_at l[j]
      rw [he] at e3 e5 e6 e9
      simp only [go_sem, ↓reduceIte, Nat.reduceLT, Nat.reduceEqDiff, Nat.reduceAdd, Nat.reduceMul, Nat.reduceLeDiff, Nat.reduceBEq, Nat.reduceSub, Int.reduceLT, Int.reduceLE, Int.reduceEq, Int.reduceToNat, reduceCtorEq, Nat.lt_irrefl, Nat.le_refl, t1, t2, t23, t24, t25, hjl, e3, Co.row, wrap_pred (show d < 9223372036854775807 by omega), obL]
      refine callK (by rfl) ?_
      simp only [go_sem, ↓reduceIte, Nat.reduceLT, Nat.reduceEqDiff, Nat.reduceAdd, Nat.reduceMul, Nat.reduceLeDiff, Nat.reduceBEq, Nat.reduceSub, Int.reduceLT, Int.reduceLE, Int.reduceEq, Int.reduceToNat, reduceCtorEq, Nat.lt_irrefl, Nat.le_refl]
      refine callE (e5) (by rfl) ?_
      simp only [go_sem, ↓reduceIte, Nat.reduceLT, Nat.reduceEqDiff, Nat.reduceAdd, Nat.reduceMul, Nat.reduceLeDiff, Nat.reduceBEq, Nat.reduceSub, Int.reduceLT, Int.reduceLE, Int.reduceEq, Int.reduceToNat, reduceCtorEq, Nat.lt_irrefl, Nat.le_refl, obL]
      cases hk : ((Co.mk nm' k' l').sm lf d).1 with
      | false =>
        rw [hk, if_neg (by simp)] at e9
        simp only [go_sem, ↓reduceIte, Nat.reduceLT, Nat.reduceEqDiff, Nat.reduceAdd, Nat.reduceMul, Nat.reduceLeDiff, Nat.reduceBEq, Nat.reduceSub, Int.reduceLT, Int.reduceLE, Int.reduceEq, Int.reduceToNat, reduceCtorEq, Nat.lt_irrefl, Nat.le_refl, hk, et, hs, e9]
      | true =>
        rw [hk, if_pos rfl] at e9
        have := e6.2 hk
        simp only [go_sem, ↓reduceIte, Nat.reduceLT, Nat.reduceEqDiff, Nat.reduceAdd, Nat.reduceMul, Nat.reduceLeDiff, Nat.reduceBEq, Nat.reduceSub, Int.reduceLT, Int.reduceLE, Int.reduceEq, Int.reduceToNat, reduceCtorEq, Nat.lt_irrefl, Nat.le_refl, hk, t25]
        refine IH (j + 1, ((Co.mk nm' k' l').sm lf d).2) _ _ _ (by simp only; omega) ⟨by simp only; omega, rfl, by simp only; omega, by simp only; omega, t1, t2, t23, t24, ?_, by rw [hs, e9]⟩
        show T.one (C.v (V.s (Value.int IntKind.i64 (IntKind.i64.wrap (j + 1))))) = _
        rw [wrap_succ (by omega)]; rfl
    · obtain rfl : j = l.length := by omega
      rw [List.drop_length] at hs
      simp only [go_sem, ↓reduceIte, Nat.reduceLT, Nat.reduceEqDiff, Nat.reduceAdd, Nat.reduceMul, Nat.reduceLeDiff, Nat.reduceBEq, Nat.reduceSub, Int.reduceLT, Int.reduceLE, Int.reduceEq, Int.reduceToNat, reduceCtorEq, Nat.lt_irrefl, Nat.le_refl, t1, t2, t23, t24, t25, hjl, et, hs, Co.sms, obL]
  · refine ⟨Nat.zero_le _, rfl, by simp only; omega, by simp only; omega, rfl, rfl, rfl, ?_, rfl, by simp only [List.drop_zero]⟩
    show T.one (C.v (V.s (Value.int IntKind.i64 ((Co.rows l).length : Nat)))) = _
    rw [crows_len]; rfl

theorem f25_ok (N : Nat) : ∀ t : Co, t.size ≤ N → N ≤ 100000 → Ev E false 25 [t.t] [] t.t [] := by
  induction N with
  | zero => intro t ht; obtain ⟨nm, k, l, rfl⟩ := cmk_at t; simp only [Co.size] at ht; omega
  | succ N ih =>
  intro t ht hN
  obtain ⟨nm, k, l, rfl⟩ := cmk_at t
  simp only [Co.size] at ht
  have hl := clen_size l
  refine ev_of_wp (d := d25) rfl rfl (Nat.le_of_ble_eq_true rfl) ?_
  simp only [go_sem, ↓reduceIte, Nat.reduceLT, Nat.reduceEqDiff, Nat.reduceAdd, Nat.reduceMul, Nat.reduceLeDiff, Nat.reduceBEq, Nat.reduceSub, Int.reduceLT, Int.reduceLE, Int.reduceEq, Int.reduceToNat, reduceCtorEq, Nat.lt_irrefl, Nat.le_refl, d25, c25, Co.t, Co.row]
  refine loop_ind (I := fun (j : Nat) tm bx fo => j ≤ l.length ∧ fo = [] ∧ tm 1 = .one (.ref (.loc 1 1) 0) ∧ tm 2 = .one (.ref (.loc 2 1) 0) ∧ tm 7 = .one (.v (.sl (Co.rows l))) ∧ tm 8 = tI l.length ∧ tm 9 = tI j ∧
      bx 1 = ⟨1, 54, [.v (.s (.string nm)), .v (.s (.int .i64 k)), .v (.sl (Co.rows l))]⟩ ∧ bx 2 = ⟨1, 61, [.v (.s (.string ⟨#[]⟩)), .v (.s (.int .i64 0)), .esl]⟩ ∧
      ((j = 0 ∧ tm 3 = .one .esl) ∨ (0 < j ∧ tm 3 = .one (.lin 17 (bx 17).g 61 ((Co.rows l).take j))))) (μ := fun j => l.length - j) ?_ 0 _ _ _ ?_
  · rintro j tm bx fo ⟨hj, rfl, h1, h2, h7, h8, h9, b1, b2, h3⟩ IH
    by_cases hjl : j < l.length
    · have e3 := crows_at hjl
      have et := ctake_row hjl
      have e5 := ih l[j] (by have := csize_at hjl; omega) (by omega)
      obtain ⟨nm', k', l', he⟩ := cmk_at l[j]
      rw [he] at e3 e5 et
      simp only [go_sem, ↓reduceIte, Nat.reduceLT, Nat.reduceEqDiff, Nat.reduceAdd, Nat.reduceMul, Nat.reduceLeDiff, Nat.reduceBEq, Nat.reduceSub, Int.reduceLT, Int.reduceLE, Int.reduceEq, Int.reduceToNat, reduceCtorEq, Nat.lt_irrefl, Nat.le_refl, h1, h2, h7, h8, h9, b1, b2, hjl, e3, Co.row]
      refine call0 (e5) (by rfl) (by rfl) (by rfl) (by rfl) ?_
      rcases h3 with ⟨rfl, h3⟩ | ⟨hj0, h3⟩
      · simp only [go_sem, ↓reduceIte, Nat.reduceLT, Nat.reduceEqDiff, Nat.reduceAdd, Nat.reduceMul, Nat.reduceLeDiff, Nat.reduceBEq, Nat.reduceSub, Int.reduceLT, Int.reduceLE, Int.reduceEq, Int.reduceToNat, reduceCtorEq, Nat.lt_irrefl, Nat.le_refl, h1, h2, h7, h8, h9, b1, b2, h3, Co.t, Co.row, appEsl, okB (n := 0 + 1) (b := 48) (by omega)]
        refine IH 1 _ _ _ (by omega) ⟨by omega, rfl, h1, h2, h7, h8, rfl, b1, b2, Or.inr ⟨by omega, ?_⟩⟩
        rw [et]; rfl
      · simp only [go_sem, ↓reduceIte, Nat.reduceLT, Nat.reduceEqDiff, Nat.reduceAdd, Nat.reduceMul, Nat.reduceLeDiff, Nat.reduceBEq, Nat.reduceSub, Int.reduceLT, Int.reduceLE, Int.reduceEq, Int.reduceToNat, reduceCtorEq, Nat.lt_irrefl, Nat.le_refl, h1, h2, h7, h8, h9, b1, b2, h3, Co.t, Co.row, appLin, allSz_take (callSz_rows l) j, ctake_len hj, okB (n := j + (0 + 1)) (b := 48) (by omega)]
        refine IH (j + 1) _ _ _ (by omega) ⟨by omega, rfl, h1, h2, h7, h8, ?_, b1, b2, Or.inr ⟨by omega, ?_⟩⟩
        · show T.one (C.v (V.s (Value.int IntKind.i64 (IntKind.i64.wrap (j + 1))))) = _
          rw [wrap_succ (by omega)]; rfl
        · rw [et]; rfl
    · obtain rfl : j = l.length := by omega
      simp only [go_sem, ↓reduceIte, Nat.reduceLT, Nat.reduceEqDiff, Nat.reduceAdd, Nat.reduceMul, Nat.reduceLeDiff, Nat.reduceBEq, Nat.reduceSub, Int.reduceLT, Int.reduceLE, Int.reduceEq, Int.reduceToNat, reduceCtorEq, Nat.lt_irrefl, Nat.le_refl, h1, h2, h7, h8, h9, b1, b2]
      rcases h3 with ⟨h0, h3⟩ | ⟨_, h3⟩
      · obtain rfl : l = [] := List.length_eq_zero_iff.1 h0
        simp only [go_sem, ↓reduceIte, Nat.reduceLT, Nat.reduceEqDiff, Nat.reduceAdd, Nat.reduceMul, Nat.reduceLeDiff, Nat.reduceBEq, Nat.reduceSub, Int.reduceLT, Int.reduceLE, Int.reduceEq, Int.reduceToNat, reduceCtorEq, Nat.lt_irrefl, Nat.le_refl, h1, h2, b1, b2, h3, Co.rows]
      · rw [List.take_of_length_le (by rw [crows_len]; exact Nat.le_refl _)] at h3
        simp only [go_sem, ↓reduceIte, Nat.reduceLT, Nat.reduceEqDiff, Nat.reduceAdd, Nat.reduceMul, Nat.reduceLeDiff, Nat.reduceBEq, Nat.reduceSub, Int.reduceLT, Int.reduceLE, Int.reduceEq, Int.reduceToNat, reduceCtorEq, Nat.lt_irrefl, Nat.le_refl, h1, h2, b1, b2, h3]
  · refine ⟨Nat.zero_le _, rfl, rfl, rfl, rfl, ?_, rfl, rfl, rfl, Or.inl ⟨rfl, rfl⟩⟩
    show T.one (C.v (V.s (Value.int IntKind.i64 ((Co.rows l).length : Nat)))) = _
    rw [crows_len]; rfl

end Go.Dev.CB

/- The arguments opened. -/
namespace Go.Dev.CB
open Go Go.ChangeShapes Go.WideShapes Go.ChangeAt Go.RowKit Go.Dev Go.Dev.Wk Go.Proofs

theorem cells29 : Try.prog.cellsOf 29 = 2 := by kernel_rfl
theorem cells27 : Try.prog.cellsOf 27 = 1 := by kernel_rfl
theorem cells3 : Try.prog.cellsOf 3 = 1 := by kernel_rfl
theorem cells9 : Try.prog.cellsOf 9 = 1 := by kernel_rfl
theorem cells52 : Try.prog.cellsOf 52 = 1 := by kernel_rfl
theorem cells54 : Try.prog.cellsOf 54 = 3 := by kernel_rfl

theorem two_of {α : Type} {cs : List α} (h : cs.length = 2) : ∃ a b, cs = [a, b] := by
  match cs, h with
  | [a, b], _ => exact ⟨a, b, rfl⟩
theorem three_of {α : Type} {cs : List α} (h : cs.length = 3) : ∃ a b c, cs = [a, b, c] := by
  match cs, h with
  | [a, b, c], _ => exact ⟨a, b, c, rfl⟩

theorem cells_at {w : World} {base : Nat} {a : Addr} {n : Nat} {cs : List Value} (h : w.cells? base a n = some cs) : cs.length = n ∧ ∀ i, i < n → w.cell? (a.add i) = cs[i]? := by
  simp only [World.cells?] at h
  split at h
  · refine ⟨by simpa using mapM_some_length h, fun i hi => ?_⟩
    exact mapM_some_get h i i (by simp [hi])
  · cases h

theorem cell_below {w : World} {b o : Nat} {v : Value} (h : w.cell? ⟨b, o, Option.none⟩ = some v) : o < G0 w b := by
  simp only [World.cell?] at h
  simp only [G0]
  cases hb : w.heap[b]? with
  | none => simp [hb] at h
  | some bl =>
    cases bl with
    | cells arr ty fz =>
      simp only [hb] at h ⊢
      simp only [Option.isSome_none, Bool.false_eq_true, if_false] at h
      exact (Array.getElem?_eq_some_iff.1 h).1
    | _ => simp [hb] at h

variable {H : Type} {enc : TypeId × Value → H} {w : World} {base : Nat} {spare : Nat → Bool} {held : Bool}

theorem add_none (b o n : Nat) : (⟨b, o, Option.none⟩ : Addr).add n = ⟨b, o + n, Option.none⟩ := by
  simp only [Addr.add]; split
  · subst_vars; rfl
  · rfl

section
variable {α : Type} {row : α → List V} {n : Nat}

theorem rel_rows (hrow : ∀ a, (row a).length = n) {G : Nat → Nat} {b : Nat} : ∀ (l : List α) (o : Nat), (∀ i, (hi : i < l.length) → ∀ (j : Nat) (c : V), (row l[i])[j]? = some c → ∃ v : Value, o + (i * n + j) < G b ∧ w.cell? ⟨b, o + (i * n + j), Option.none⟩ = some v ∧ RelV w G c v) → RelRows w G n b o (l.map row)
  | [], o, h => by simp only [List.map_nil, RelRows]
  | t :: ts, o, h => by
    simp only [List.map_cons, RelRows]
    refine ⟨hrow t, RelRow.mk fun i c hc => ?_, rel_rows hrow ts (o + n) fun i hi j c hc => ?_⟩
    · have := h 0 (by simp) i c hc
      simpa only [Nat.zero_mul, Nat.zero_add] using this
    · have := h (i + 1) (by simpa using hi) j c (by simpa using hc)
      rw [show o + ((i + 1) * n + j) = o + n + (i * n + j) by rw [Nat.succ_mul]; omega] at this
      exact this

theorem open_sl (hrow : ∀ a, (row a).length = n) (hn : 0 < n) {a : Addr} {len cap : Nat} (hlc : len ≤ cap)
    (each : ∀ i, i < len → ∃ t : α, ∀ (j : Nat) (c : V), (row t)[j]? = some c → ∃ v : Value, w.cell? (a.add (i * n + j)) = some v ∧ RelV w (G0 w) c v) :
    ∃ l : List α, l.length = len ∧ RelV w (G0 w) (.sl (l.map row)) (.slice (some a) len cap) := by
  have all : ∀ m, m ≤ len → ∃ l : List α, l.length = m ∧ ∀ i, (hi : i < l.length) → ∀ (j : Nat) (c : V), (row l[i])[j]? = some c → ∃ v : Value, w.cell? (a.add (i * n + j)) = some v ∧ RelV w (G0 w) c v := by
    intro m
    induction m with
    | zero => intro _; exact ⟨[], rfl, fun i hi => absurd hi (Nat.not_lt_zero _)⟩
    | succ m ihm =>
      intro hm
      obtain ⟨l, l1, l2⟩ := ihm (by omega)
      obtain ⟨t, ht⟩ := each m (by omega)
      refine ⟨l ++ [t], by simp [l1], fun i hi j c hc => ?_⟩
      by_cases him : i < l.length
      · rw [List.getElem_append_left him] at hc
        exact l2 i him j c hc
      · obtain rfl : i = m := by simp at hi; omega
        have : (l ++ [t])[i] = t := by rw [List.getElem_append_right (by omega)]; simp [l1]
        rw [this] at hc
        exact ht j c hc
  obtain ⟨l, l1, l2⟩ := all len (Nat.le_refl _)
  refine ⟨l, l1, ?_⟩
  simp only [RelV]
  refine ⟨_, _, _, n, rfl, by rw [List.length_map]; exact l1.symm, hlc, ?_⟩
  by_cases h0 : len = 0
  · left; obtain rfl : l = [] := List.length_eq_zero_iff.1 (by omega); rfl
  · right
    obtain ⟨b, o, spot⟩ := a
    have hspot : spot = Option.none := by
      have h1 := hrow (l[0]'(by omega))
      obtain ⟨v, hv, _⟩ := l2 0 (by omega) 0 ((row (l[0]'(by omega)))[0]'(by omega)) (by rw [List.getElem?_eq_getElem])
      rw [Nat.zero_mul, Nat.add_zero] at hv
      exact World.cell?_spot hv
    subst hspot
    refine ⟨b, o, rfl, rel_rows hrow l o fun i hi j c hc => ?_⟩
    obtain ⟨v, hv, hr⟩ := l2 i hi j c hc
    rw [add_none] at hv
    exact ⟨v, cell_below hv, hv, hr⟩
end

theorem open_nil : RelV w (G0 w) (.sl []) (.slice Option.none 0 0) := by
  simp only [RelV]; exact ⟨_, _, _, 2, rfl, rfl, Nat.le_refl _, .inl trivial⟩

/-- A trodden type is a tree. -/
theorem open_ty (N : Nat) : ∀ (fuel : Nat), fuel ≤ N → ∀ (cs : List Value) (x : DataW H × List MemPlace), DataW.trod enc Try.prog w base spare held fuel 29 cs = some x → ∃ t : Ty, cs.length = 2 ∧ ∀ (i : Nat) (c : V), t.row[i]? = some c → ∃ v : Value, cs[i]? = some v ∧ RelV w (G0 w) c v := by
  induction N with
  | zero => intro fuel hf cs x h; obtain rfl : fuel = 0 := by omega
            simp [DataW.trod] at h
  | succ N ih =>
  intro fuel hf cs x h
  obtain ⟨xs, n, rfl, rfl, hl, hlen, hfs⟩ := DataW.trod_struct Try.underlying29 h
  rw [cells29] at hl
  have f0 := hfs 0 ⟨"Kind", 3, 0, false, "", "", 0⟩ rfl
  have f1 := hfs 1 ⟨"Args", 27, 1, false, "", "", 8⟩ rfl
  simp only [cells3, cells27, List.drop_zero] at f0 f1
  obtain ⟨c0, c1, rfl⟩ := two_of hl
  simp only [List.take_succ_cons, List.take_zero, List.drop_succ_cons, List.drop_zero] at f0 f1
  have hx0 : 0 < xs.length := by rw [hlen]; decide
  have hx1 : 1 < xs.length := by rw [hlen]; decide
  rw [List.getElem?_eq_getElem hx0] at f0
  rw [List.getElem?_eq_getElem hx1] at f1
  obtain ⟨k, e0, _, _⟩ := DataW.trod_int Try.underlying3 f0
  obtain rfl : c0 = .int .i64 k := by simpa using e0
  have mk : ∀ l : List Ty, RelV w (G0 w) (.sl (l.map Ty.row)) c1 → ∃ t : Ty, [Value.int .i64 k, c1].length = 2 ∧ ∀ (i : Nat) (c : V), t.row[i]? = some c → ∃ v : Value, [Value.int .i64 k, c1][i]? = some v ∧ RelV w (G0 w) c v := by
    intro l hr
    rw [← rows_map] at hr
    refine ⟨.mk k l, rfl, fun i c hc => ?_⟩
    match i, hc with
    | 0, hc => simp [Ty.row] at hc; subst hc; exact ⟨_, rfl, by simp only [RelV]; exact ⟨trivial, rfl⟩⟩
    | 1, hc => simp [Ty.row] at hc; subst hc; exact ⟨_, rfl, hr⟩
    | i + 2, hc => simp [Ty.row] at hc
  rcases DataW.trod_slice Try.underlying27 f1 with ⟨e1, _⟩ | ⟨a, len, cap, elems, rest, n', rfl, e1, _, hb, hlc, hcm, hel, hat, _, _⟩
  · obtain rfl : c1 = .slice Option.none 0 0 := by simpa using e1
    exact mk [] open_nil
  · obtain rfl : c1 = .slice (some a) len cap := by simpa using e1
    rw [cells29] at hat
    obtain ⟨l, _, hl⟩ := open_sl (row := Ty.row) (n := 2) (w := w) (a := a) (fun t => by cases t; rfl) (by omega) hlc (fun i hi => by
      have h1 := hat i hi
      rw [List.getElem?_eq_getElem (by omega), Option.bind_eq_some_iff] at h1
      obtain ⟨cs', h2, h3⟩ := h1
      obtain ⟨hc1, hc2⟩ := cells_at h2
      obtain ⟨t, ht1, ht2⟩ := ih n' (by omega) cs' _ h3
      refine ⟨t, fun j c hj => ?_⟩
      obtain ⟨v, hv1, hv2⟩ := ht2 j c hj
      have hj2 : j < 2 := by
        have := (List.getElem?_eq_some_iff.1 hv1).1
        omega
      refine ⟨v, ?_, hv2⟩
      have := hc2 j hj2
      rw [hv1] at this
      rw [Addr.add_add] at this; exact this)
    exact mk l hl

theorem open_co (N : Nat) : ∀ (fuel : Nat), fuel ≤ N → ∀ (cs : List Value) (x : DataW H × List MemPlace), DataW.trod enc Try.prog w base spare held fuel 54 cs = some x → ∃ t : Co, cs.length = 3 ∧ ∀ (i : Nat) (c : V), t.row[i]? = some c → ∃ v : Value, cs[i]? = some v ∧ RelV w (G0 w) c v := by
  induction N with
  | zero => intro fuel hf cs x h; obtain rfl : fuel = 0 := by omega
            simp [DataW.trod] at h
  | succ N ih =>
  intro fuel hf cs x h
  obtain ⟨xs, n, rfl, rfl, hl, hlen, hfs⟩ := DataW.trod_struct Try.underlying54 h
  rw [cells54] at hl
  have f0 := hfs 0 ⟨"Name", 9, 0, false, "", "", 0⟩ rfl
  have f1 := hfs 1 ⟨"K", 3, 1, false, "", "", 16⟩ rfl
  have f2 := hfs 2 ⟨"Parts", 52, 2, false, "", "", 24⟩ rfl
  simp only [cells3, cells9, cells52, List.drop_zero] at f0 f1 f2
  obtain ⟨c0, c1, c2, rfl⟩ := three_of hl
  simp only [List.take_succ_cons, List.take_zero, List.drop_succ_cons, List.drop_zero] at f0 f1 f2
  have hx0 : 0 < xs.length := by rw [hlen]; decide
  have hx1 : 1 < xs.length := by rw [hlen]; decide
  have hx2 : 2 < xs.length := by rw [hlen]; decide
  rw [List.getElem?_eq_getElem hx0] at f0
  rw [List.getElem?_eq_getElem hx1] at f1
  rw [List.getElem?_eq_getElem hx2] at f2
  obtain ⟨s, e0, _, _⟩ := DataW.trod_string Try.underlying9 f0
  obtain rfl : c0 = .string s := by simpa using e0
  obtain ⟨k, e1, _, _⟩ := DataW.trod_int Try.underlying3 f1
  obtain rfl : c1 = .int .i64 k := by simpa using e1
  have mk : ∀ l : List Co, RelV w (G0 w) (.sl (l.map Co.row)) c2 → ∃ t : Co, [Value.string s, .int .i64 k, c2].length = 3 ∧ ∀ (i : Nat) (c : V), t.row[i]? = some c → ∃ v : Value, [Value.string s, .int .i64 k, c2][i]? = some v ∧ RelV w (G0 w) c v := by
    intro l hr
    rw [← crows_map] at hr
    refine ⟨.mk s k l, rfl, fun i c hc => ?_⟩
    match i, hc with
    | 0, hc => simp [Co.row] at hc; subst hc; exact ⟨_, rfl, by simp only [RelV]; exact ⟨trivial, rfl⟩⟩
    | 1, hc => simp [Co.row] at hc; subst hc; exact ⟨_, rfl, by simp only [RelV]; exact ⟨trivial, rfl⟩⟩
    | 2, hc => simp [Co.row] at hc; subst hc; exact ⟨_, rfl, hr⟩
    | i + 3, hc => simp [Co.row] at hc
  rcases DataW.trod_slice Try.underlying52 f2 with ⟨e2, _⟩ | ⟨a, len, cap, elems, rest, n', rfl, e2, _, hb, hlc, hcm, hel, hat, _, _⟩
  · obtain rfl : c2 = .slice Option.none 0 0 := by simpa using e2
    exact mk [] open_nil
  · obtain rfl : c2 = .slice (some a) len cap := by simpa using e2
    rw [cells54] at hat
    obtain ⟨l, _, hl⟩ := open_sl (row := Co.row) (n := 3) (w := w) (a := a) (fun t => by cases t; rfl) (by omega) hlc (fun i hi => by
      have h1 := hat i hi
      rw [List.getElem?_eq_getElem (by omega), Option.bind_eq_some_iff] at h1
      obtain ⟨cs', h2, h3⟩ := h1
      obtain ⟨hc1, hc2⟩ := cells_at h2
      obtain ⟨t, ht1, ht2⟩ := ih n' (by omega) cs' _ h3
      refine ⟨t, fun j c hj => ?_⟩
      obtain ⟨v, hv1, hv2⟩ := ht2 j c hj
      have hj2 : j < 3 := by
        have := (List.getElem?_eq_some_iff.1 hv1).1
        omega
      refine ⟨v, ?_, hv2⟩
      have := hc2 j hj2
      rw [hv1] at this
      rw [Addr.add_add] at this; exact this)
    exact mk l hl

/-- Cells that are right are a thing that is right. -/
theorem relT_agg {row : List V} {cs : List Value} (hn : cs.length = row.length) (hc : ∀ (i : Nat) (c : V), row[i]? = some c → ∃ v : Value, cs[i]? = some v ∧ RelV w (G0 w) c v) : RelT (c0 w) (.agg (row.map .v)) (.agg ⟨cs⟩) := by
  simp only [RelT]
  refine ⟨cs, rfl, RelCs.mk (by rw [List.length_map, hn]) fun i x v hx hv => ?_⟩
  rw [List.getElem?_map, Option.map_eq_some_iff] at hx
  obtain ⟨y, hy, rfl⟩ := hx
  obtain ⟨u, hu, hr⟩ := hc i y hy
  have : u = v := by
    have hv' : cs[i]? = some v := hv
    rw [hu, Option.some.injEq] at hv'; exact hv'
  subst this
  exact hr

set_option maxRecDepth 100000 in
theorem arg_ty {v : Value} {d : DataW H} {p : List MemPlace} (h : DataW.Trod enc Try.prog w base spare held 29 v d p) {r : Reach} {base2 : Nat} (hk : Value.okWide Try.prog w r base2 29 v) : ∃ t : Ty, RelT (c0 w) t.t v := by
  obtain ⟨cs, rfl, hc⟩ := okWide_struct Try.underlying29 hk
  obtain ⟨fuel, hf⟩ := h
  obtain ⟨t, h1, h2⟩ := open_ty fuel fuel (Nat.le_refl _) _ _ hf
  exact ⟨t, by obtain ⟨l⟩ := cs; exact relT_agg (by cases t; exact h1) h2⟩

set_option maxRecDepth 100000 in
theorem arg_co {v : Value} {d : DataW H} {p : List MemPlace} (h : DataW.Trod enc Try.prog w base spare held 54 v d p) {r : Reach} {base2 : Nat} (hk : Value.okWide Try.prog w r base2 54 v) : ∃ t : Co, RelT (c0 w) t.t v := by
  obtain ⟨cs, rfl, hc⟩ := okWide_struct Try.underlying54 hk
  obtain ⟨fuel, hf⟩ := h
  obtain ⟨t, h1, h2⟩ := open_co fuel fuel (Nat.le_refl _) _ _ hf
  exact ⟨t, by obtain ⟨l⟩ := cs; exact relT_agg (by cases t; exact h1) h2⟩

theorem own : ownKnob Try.prog.godebug = Option.none := by kernel_rfl
theorem laidOut : laidOutB Try.prog = true := by kernel_rfl

/-- A call that the evaluator knows. -/
theorem calls_true {f : Nat} {args : List T} (h : Ev E false f args [] (tB true) []) (hh : handedTs args = true) {vs : List Value} (ha : RelTs (c0 w) args vs) :
    Calls Go.Proofs.Try.prog f ⟨vs⟩ w fun en w' => en = .returned (.bool true) ∧ Below w.heap.size w w' := by
  obtain ⟨N, hN⟩ := h
  exact top_true (ev_good laid N) hN hh ha

end Go.Dev.CB

/- The names of combiners; which combiners are right. -/
namespace Go.Dev.CB
open Go Go.Dev Go.Dev.Wk

def nlist : List ByteArray := [⟨#[99, 111, 117, 110, 116]⟩, ⟨#[115, 117, 109]⟩, ⟨#[109, 101, 97, 110]⟩, ⟨#[115, 112, 105, 110]⟩, ⟨#[109, 105, 110]⟩, ⟨#[109, 97, 120]⟩, ⟨#[97, 108, 108]⟩, ⟨#[115, 101, 116]⟩, ⟨#[116, 111, 112]⟩, ⟨#[98, 111, 116, 104]⟩]
/-- Which one of the names it is; 10: none. -/
def nid (s : ByteArray) : Nat :=
  if s = ⟨#[99, 111, 117, 110, 116]⟩ then 0
  else if s = ⟨#[115, 117, 109]⟩ then 1
  else if s = ⟨#[109, 101, 97, 110]⟩ then 2
  else if s = ⟨#[115, 112, 105, 110]⟩ then 3
  else if s = ⟨#[109, 105, 110]⟩ then 4
  else if s = ⟨#[109, 97, 120]⟩ then 5
  else if s = ⟨#[97, 108, 108]⟩ then 6
  else if s = ⟨#[115, 101, 116]⟩ then 7
  else if s = ⟨#[116, 111, 112]⟩ then 8
  else if s = ⟨#[98, 111, 116, 104]⟩ then 9
  else 10
theorem nmcount (s : ByteArray) : (s = (⟨#[99, 111, 117, 110, 116]⟩ : ByteArray)) = (nid s = 0) := by
  refine propext ⟨fun h => by subst h; rfl, fun h => ?_⟩
  unfold nid at h
  repeat' split at h
  all_goals first | assumption | omega
theorem nmsum (s : ByteArray) : (s = (⟨#[115, 117, 109]⟩ : ByteArray)) = (nid s = 1) := by
  refine propext ⟨fun h => by subst h; rfl, fun h => ?_⟩
  unfold nid at h
  repeat' split at h
  all_goals first | assumption | omega
theorem nmmean (s : ByteArray) : (s = (⟨#[109, 101, 97, 110]⟩ : ByteArray)) = (nid s = 2) := by
  refine propext ⟨fun h => by subst h; rfl, fun h => ?_⟩
  unfold nid at h
  repeat' split at h
  all_goals first | assumption | omega
theorem nmspin (s : ByteArray) : (s = (⟨#[115, 112, 105, 110]⟩ : ByteArray)) = (nid s = 3) := by
  refine propext ⟨fun h => by subst h; rfl, fun h => ?_⟩
  unfold nid at h
  repeat' split at h
  all_goals first | assumption | omega
theorem nmmin (s : ByteArray) : (s = (⟨#[109, 105, 110]⟩ : ByteArray)) = (nid s = 4) := by
  refine propext ⟨fun h => by subst h; rfl, fun h => ?_⟩
  unfold nid at h
  repeat' split at h
  all_goals first | assumption | omega
theorem nmmax (s : ByteArray) : (s = (⟨#[109, 97, 120]⟩ : ByteArray)) = (nid s = 5) := by
  refine propext ⟨fun h => by subst h; rfl, fun h => ?_⟩
  unfold nid at h
  repeat' split at h
  all_goals first | assumption | omega
theorem nmall (s : ByteArray) : (s = (⟨#[97, 108, 108]⟩ : ByteArray)) = (nid s = 6) := by
  refine propext ⟨fun h => by subst h; rfl, fun h => ?_⟩
  unfold nid at h
  repeat' split at h
  all_goals first | assumption | omega
theorem nmset (s : ByteArray) : (s = (⟨#[115, 101, 116]⟩ : ByteArray)) = (nid s = 7) := by
  refine propext ⟨fun h => by subst h; rfl, fun h => ?_⟩
  unfold nid at h
  repeat' split at h
  all_goals first | assumption | omega
theorem nmtop (s : ByteArray) : (s = (⟨#[116, 111, 112]⟩ : ByteArray)) = (nid s = 8) := by
  refine propext ⟨fun h => by subst h; rfl, fun h => ?_⟩
  unfold nid at h
  repeat' split at h
  all_goals first | assumption | omega
theorem nmboth (s : ByteArray) : (s = (⟨#[98, 111, 116, 104]⟩ : ByteArray)) = (nid s = 9) := by
  refine propext ⟨fun h => by subst h; rfl, fun h => ?_⟩
  unfold nid at h
  repeat' split at h
  all_goals first | assumption | omega
theorem nid_le (s : ByteArray) : nid s ≤ 10 := by
  unfold nid
  repeat' split
  all_goals omega
theorem nid_empty : nid ⟨#[]⟩ = 10 := rfl
attribute [go_sem] nmcount nmsum nmmean nmspin nmmin nmmax nmall nmset nmtop nmboth

theorem f83_ok : Ev E false 83 [] [] (.one (.v (.sl (nlist.map fun s => [.s (.string s)])))) [] := ⟨20, by kernel_rfl⟩

theorem f105_ok (s : ByteArray) (l : List ByteArray) (hl : l.length < 100000) : Ev E false 105 [.one (.v (.sl (l.map fun s => [.s (.string s)]))), tS s] [] (tI (idxI (l.findIdx? fun x => decide (s = x)))) [] := by
  refine ev_of_wp (d := d105) rfl rfl (Nat.le_of_ble_eq_true rfl) ?_
  simp only [go_sem, ↓reduceIte, Nat.reduceLT, Nat.reduceEqDiff, Nat.reduceAdd, Nat.reduceMul, Nat.reduceLeDiff, Nat.reduceBEq, Nat.reduceSub, Int.reduceLT, Int.reduceLE, Int.reduceEq, Int.reduceToNat, reduceCtorEq, Nat.lt_irrefl, Nat.le_refl, d105, c105]
  refine loop_ind (I := fun (j : Nat) tm bx fo => j ≤ l.length ∧ fo = [] ∧ tm 0 = .one (.v (.sl (l.map fun s => [.s (.string s)]))) ∧ tm 1 = tS s ∧ tm 7 = tI l.length ∧ tm 8 = tI j ∧
      ∀ i, (h : i < j) → (h2 : i < l.length) → ¬ s = l[i]) (μ := fun j => l.length - j) ?_ 0 _ _ _ ⟨Nat.zero_le _, rfl, rfl, rfl, rfl, rfl, fun i h => absurd h (Nat.not_lt_zero _)⟩
  rintro j tm bx fo ⟨hj, rfl, h0, h1, h7, h8, hn⟩ IH
  by_cases hjl : j < l.length
  · have e3 : (l.map fun s => [V.s (.string s)])[j]? = some [.s (.string l[j])] := by rw [List.getElem?_map, List.getElem?_eq_getElem hjl]; rfl
    by_cases hk : s = l[j]
    · have e4 : (s = l[j]) = True := eq_true hk
      simp only [go_sem, ↓reduceIte, Nat.reduceLT, Nat.reduceEqDiff, Nat.reduceAdd, Nat.reduceMul, Nat.reduceLeDiff, Nat.reduceBEq, Nat.reduceSub, Int.reduceLT, Int.reduceLE, Int.reduceEq, Int.reduceToNat, reduceCtorEq, Nat.lt_irrefl, Nat.le_refl, h0, h1, h7, h8, hjl, e3, e4]
      have : (l.findIdx? fun x => decide (s = x)) = some j := find_at hjl (by simp [hk]) (fun i hi => by simp [hn i hi (by omega)])
      rw [this]; rfl
    · simp only [go_sem, ↓reduceIte, Nat.reduceLT, Nat.reduceEqDiff, Nat.reduceAdd, Nat.reduceMul, Nat.reduceLeDiff, Nat.reduceBEq, Nat.reduceSub, Int.reduceLT, Int.reduceLE, Int.reduceEq, Int.reduceToNat, reduceCtorEq, Nat.lt_irrefl, Nat.le_refl, h0, h1, h7, h8, hjl, e3, hk]
      refine IH (j + 1) _ _ _ (by omega) ⟨by omega, rfl, h0, h1, h7, ?_, ?_⟩
      · show T.one (C.v (V.s (Value.int IntKind.i64 (IntKind.i64.wrap (j + 1))))) = _
        rw [wrap_succ (by omega)]; rfl
      · intro i h h2
        by_cases hij : i = j
        · subst hij; exact hk
        · exact hn i (by omega) h2
  · simp only [go_sem, ↓reduceIte, Nat.reduceLT, Nat.reduceEqDiff, Nat.reduceAdd, Nat.reduceMul, Nat.reduceLeDiff, Nat.reduceBEq, Nat.reduceSub, Int.reduceLT, Int.reduceLE, Int.reduceEq, Int.reduceToNat, reduceCtorEq, Nat.lt_irrefl, Nat.le_refl, h0, h1, h7, h8, hjl]
    have : (l.findIdx? fun x => decide (s = x)) = none := find_none (fun i hi => by simp [hn i (by omega) hi])
    rw [this]; rfl

theorem f82_ok (s : ByteArray) : Ev E false 82 [.one (.v (.sl (nlist.map fun s => [.s (.string s)]))), tS s] [] (tB (decide (nid s < 10))) [] := by
  refine ev_of_wp (d := d82) rfl rfl (Nat.le_of_ble_eq_true rfl) ?_
  simp only [go_sem, ↓reduceIte, Nat.reduceLT, Nat.reduceEqDiff, Nat.reduceAdd, Nat.reduceMul, Nat.reduceLeDiff, Nat.reduceBEq, Nat.reduceSub, Int.reduceLT, Int.reduceLE, Int.reduceEq, Int.reduceToNat, reduceCtorEq, Nat.lt_irrefl, Nat.le_refl, d82, c82]
  refine call0 (f105_ok s nlist (by decide)) (by rfl) (by rfl) (by rfl) (by rfl) ?_
  have h10 := nid_le s
  have key : (0 ≤ idxI (nlist.findIdx? fun x => decide (s = x))) = (nid s < 10) := by
    simp only [nlist, List.findIdx?_cons, List.findIdx?_nil, nmcount, nmsum, nmmean, nmspin, nmmin, nmmax, nmall, nmset, nmtop, nmboth]
    rcases (show nid s = 0 ∨ nid s = 1 ∨ nid s = 2 ∨ nid s = 3 ∨ nid s = 4 ∨ nid s = 5 ∨ nid s = 6 ∨ nid s = 7 ∨ nid s = 8 ∨ nid s = 9 ∨ nid s = 10 by omega) with h | h | h | h | h | h | h | h | h | h | h <;> simp [h, idxI]
  simp only [go_sem, ↓reduceIte, Nat.reduceLT, Nat.reduceEqDiff, Nat.reduceAdd, Nat.reduceMul, Nat.reduceLeDiff, Nat.reduceBEq, Nat.reduceSub, Int.reduceLT, Int.reduceLE, Int.reduceEq, Int.reduceToNat, reduceCtorEq, Nat.lt_irrefl, Nat.le_refl, key]

/-! ### Right combiners -/

mutual
def Co.rt : Nat → Co → Bool
  | 0, _ => false
  | d + 1, .mk nm k ps =>
    if nid nm = 9 then decide (k = 0) && decide (ps.length = 2) && Co.rts d ps
    else if nid nm = 8 then decide (1 ≤ k) && decide (k ≤ 16) && decide (ps.length = 0)
    else decide (nid nm < 8) && decide (k = 0) && decide (ps.length = 0)
def Co.rts : Nat → List Co → Bool
  | _, [] => true
  | d, t :: ts => Co.rt d t && Co.rts d ts
end

theorem ncast_eq0 (a : Nat) : ((a : Int) = 0) = (a = 0) := propext (by omega)
theorem ncast_eq2 (a : Nat) : ((a : Int) = 2) = (a = 2) := propext (by omega)
theorem rt_both {nm : ByteArray} (h : nid nm = 9) (d : Nat) (a b : Co) : Co.rt (d + 1) (.mk nm 0 [a, b]) = (Co.rt d a && Co.rt d b) := by
  simp only [Co.rt, h, if_true, decide_true, Bool.true_and, List.length_cons, List.length_nil, Co.rts, Bool.and_true]
theorem rt_eq (nm : ByteArray) (k : Int) (ps : List Co) (d : Nat) : Co.rt (d + 1) (.mk nm k ps) = if nid nm = 9 then decide (k = 0) && decide (ps.length = 2) && Co.rts d ps
    else if nid nm = 8 then decide (1 ≤ k) && decide (k ≤ 16) && decide (ps.length = 0)
    else decide (nid nm < 8) && decide (k = 0) && decide (ps.length = 0) := rfl

theorem co_two {l : List Co} (h : l.length = 2) : ∃ a b, l = [a, b] := by
  match l, h with
  | [a, b], _ => exact ⟨a, b, rfl⟩

theorem f54_ok (d : Nat) : ∀ c : Co, d < 100 → Ev E false 54 [c.t, tI d] [] (tB (c.rt d)) [] := by
  induction d with
  | zero =>
    intro c _
    obtain ⟨nm, k, ps, rfl⟩ := cmk_at c
    refine ev_of_wp (d := d54) rfl rfl (Nat.le_of_ble_eq_true rfl) ?_
    simp only [go_sem, ↓reduceIte, Nat.reduceLT, Nat.reduceEqDiff, Nat.reduceAdd, Nat.reduceMul, Nat.reduceLeDiff, Nat.reduceBEq, Nat.reduceSub, Int.reduceLT, Int.reduceLE, Int.reduceEq, Int.reduceToNat, reduceCtorEq, Nat.lt_irrefl, Nat.le_refl, d54, c54, Co.t, Co.row, ncast0, Co.rt]
  | succ d ih =>
    intro c hd
    obtain ⟨nm, k, ps, rfl⟩ := cmk_at c
    refine ev_of_wp (d := d54) rfl rfl (Nat.le_of_ble_eq_true rfl) ?_
    have e7 : (((d + 1 : Nat) : Int) = 0) = False := by simp; omega
    have w1 := wrap_pred (n := d) (by omega)
    simp only [go_sem, ↓reduceIte, Nat.reduceLT, Nat.reduceEqDiff, Nat.reduceAdd, Nat.reduceMul, Nat.reduceLeDiff, Nat.reduceBEq, Nat.reduceSub, Int.reduceLT, Int.reduceLE, Int.reduceEq, Int.reduceToNat, reduceCtorEq, Nat.lt_irrefl, Nat.le_refl, d54, c54, Co.t, Co.row, e7]
    refine call0 (f83_ok) (by rfl) (by rfl) (by rfl) (by rfl) ?_
    simp only [go_sem, ↓reduceIte, Nat.reduceLT, Nat.reduceEqDiff, Nat.reduceAdd, Nat.reduceMul, Nat.reduceLeDiff, Nat.reduceBEq, Nat.reduceSub, Int.reduceLT, Int.reduceLE, Int.reduceEq, Int.reduceToNat, reduceCtorEq, Nat.lt_irrefl, Nat.le_refl]
    refine call0 (f82_ok nm) (by rfl) (by rfl) (by rfl) (by rfl) ?_
    have h10 := nid_le nm
    by_cases h11 : nid nm = 10
    · simp only [go_sem, ↓reduceIte, Nat.reduceLT, Nat.reduceEqDiff, Nat.reduceAdd, Nat.reduceMul, Nat.reduceLeDiff, Nat.reduceBEq, Nat.reduceSub, Int.reduceLT, Int.reduceLE, Int.reduceEq, Int.reduceToNat, reduceCtorEq, Nat.lt_irrefl, Nat.le_refl, h11, rt_eq]
    have hlt : (nid nm < 10) = True := eq_true (by omega)
    by_cases h8 : nid nm = 8
    · by_cases hk1 : 1 ≤ k
      case neg => simp only [go_sem, ↓reduceIte, Nat.reduceLT, Nat.reduceEqDiff, Nat.reduceAdd, Nat.reduceMul, Nat.reduceLeDiff, Nat.reduceBEq, Nat.reduceSub, Int.reduceLT, Int.reduceLE, Int.reduceEq, Int.reduceToNat, reduceCtorEq, Nat.lt_irrefl, Nat.le_refl, h8, hk1, rt_eq]
      by_cases hk2 : k ≤ 16
      case neg => simp only [go_sem, ↓reduceIte, Nat.reduceLT, Nat.reduceEqDiff, Nat.reduceAdd, Nat.reduceMul, Nat.reduceLeDiff, Nat.reduceBEq, Nat.reduceSub, Int.reduceLT, Int.reduceLE, Int.reduceEq, Int.reduceToNat, reduceCtorEq, Nat.lt_irrefl, Nat.le_refl, h8, hk1, hk2, rt_eq]
      simp only [go_sem, ↓reduceIte, Nat.reduceLT, Nat.reduceEqDiff, Nat.reduceAdd, Nat.reduceMul, Nat.reduceLeDiff, Nat.reduceBEq, Nat.reduceSub, Int.reduceLT, Int.reduceLE, Int.reduceEq, Int.reduceToNat, reduceCtorEq, Nat.lt_irrefl, Nat.le_refl, h8, hk1, hk2, rt_eq, crows_len, ncast_eq0]
    by_cases h9 : nid nm = 9
    case neg =>
      have hlt8 : (nid nm < 8) = True := eq_true (by omega)
      by_cases hk0 : k = 0
      case neg => simp only [go_sem, ↓reduceIte, Nat.reduceLT, Nat.reduceEqDiff, Nat.reduceAdd, Nat.reduceMul, Nat.reduceLeDiff, Nat.reduceBEq, Nat.reduceSub, Int.reduceLT, Int.reduceLE, Int.reduceEq, Int.reduceToNat, reduceCtorEq, Nat.lt_irrefl, Nat.le_refl, hlt, h8, h9, hk0, rt_eq]
      simp only [go_sem, ↓reduceIte, Nat.reduceLT, Nat.reduceEqDiff, Nat.reduceAdd, Nat.reduceMul, Nat.reduceLeDiff, Nat.reduceBEq, Nat.reduceSub, Int.reduceLT, Int.reduceLE, Int.reduceEq, Int.reduceToNat, reduceCtorEq, Nat.lt_irrefl, Nat.le_refl, hlt, h8, h9, hk0, hlt8, rt_eq, crows_len, ncast_eq0]
    by_cases hk0 : k = 0
    case neg => simp only [go_sem, ↓reduceIte, Nat.reduceLT, Nat.reduceEqDiff, Nat.reduceAdd, Nat.reduceMul, Nat.reduceLeDiff, Nat.reduceBEq, Nat.reduceSub, Int.reduceLT, Int.reduceLE, Int.reduceEq, Int.reduceToNat, reduceCtorEq, Nat.lt_irrefl, Nat.le_refl, h9, hk0, rt_eq]
    by_cases hl : ps.length = 2
    case neg => simp only [go_sem, ↓reduceIte, Nat.reduceLT, Nat.reduceEqDiff, Nat.reduceAdd, Nat.reduceMul, Nat.reduceLeDiff, Nat.reduceBEq, Nat.reduceSub, Int.reduceLT, Int.reduceLE, Int.reduceEq, Int.reduceToNat, reduceCtorEq, Nat.lt_irrefl, Nat.le_refl, h9, hk0, ncast_eq2, hl, crows_len, rt_eq]
    subst hk0
    obtain ⟨a, b, rfl⟩ := co_two hl
    have ia := ih a (by omega)
    have ib := ih b (by omega)
    rw [rt_both h9]
    obtain ⟨na, ka, pa, rfl⟩ := cmk_at a
    obtain ⟨nb, kb, pb, rfl⟩ := cmk_at b
    simp only [go_sem, ↓reduceIte, Nat.reduceLT, Nat.reduceEqDiff, Nat.reduceAdd, Nat.reduceMul, Nat.reduceLeDiff, Nat.reduceBEq, Nat.reduceSub, Int.reduceLT, Int.reduceLE, Int.reduceEq, Int.reduceToNat, reduceCtorEq, Nat.lt_irrefl, Nat.le_refl, h9, Co.rows, Co.row, ncast2, w1]
    refine call0 (ia) (by rfl) (by rfl) (by rfl) (by rfl) ?_
    cases ha : (Co.mk na ka pa).rt d with
    | false => simp only [go_sem, ↓reduceIte, Nat.reduceLT, Nat.reduceEqDiff, Nat.reduceAdd, Nat.reduceMul, Nat.reduceLeDiff, Nat.reduceBEq, Nat.reduceSub, Int.reduceLT, Int.reduceLE, Int.reduceEq, Int.reduceToNat, reduceCtorEq, Nat.lt_irrefl, Nat.le_refl, ha]
    | true =>
      simp only [go_sem, ↓reduceIte, Nat.reduceLT, Nat.reduceEqDiff, Nat.reduceAdd, Nat.reduceMul, Nat.reduceLeDiff, Nat.reduceBEq, Nat.reduceSub, Int.reduceLT, Int.reduceLE, Int.reduceEq, Int.reduceToNat, reduceCtorEq, Nat.lt_irrefl, Nat.le_refl, ha, w1]
      refine call0 (ib) (by rfl) (by rfl) (by rfl) (by rfl) ?_
      simp only [go_sem, ↓reduceIte, Nat.reduceLT, Nat.reduceEqDiff, Nat.reduceAdd, Nat.reduceMul, Nat.reduceLeDiff, Nat.reduceBEq, Nat.reduceSub, Int.reduceLT, Int.reduceLE, Int.reduceEq, Int.reduceToNat, reduceCtorEq, Nat.lt_irrefl, Nat.le_refl]

theorem f56_ok (s : ByteArray) : Ev E false 56 [tS s] [] (tB (decide (nid s < 8))) [] := by
  refine ev_of_wp (d := d56) rfl rfl (Nat.le_of_ble_eq_true rfl) ?_
  have h10 := nid_le s
  rcases (show nid s = 0 ∨ nid s = 1 ∨ nid s = 2 ∨ nid s = 3 ∨ nid s = 4 ∨ nid s = 5 ∨ nid s = 6 ∨ nid s = 7 ∨ nid s = 8 ∨ nid s = 9 ∨ nid s = 10 by omega) with h | h | h | h | h | h | h | h | h | h | h <;> simp only [go_sem, ↓reduceIte, Nat.reduceLT, Nat.reduceEqDiff, Nat.reduceAdd, Nat.reduceMul, Nat.reduceLeDiff, Nat.reduceBEq, Nat.reduceSub, Int.reduceLT, Int.reduceLE, Int.reduceEq, Int.reduceToNat, reduceCtorEq, Nat.lt_irrefl, Nat.le_refl, d56, c56, h]

theorem f27_ok (d : Nat) : ∀ c : Co, d < 100 → Ev E false 27 [c.t, tI d] [] (tB (c.rt d)) [] := by
  induction d with
  | zero =>
    intro c _
    obtain ⟨nm, k, ps, rfl⟩ := cmk_at c
    refine ev_of_wp (d := d27) rfl rfl (Nat.le_of_ble_eq_true rfl) ?_
    simp only [go_sem, ↓reduceIte, Nat.reduceLT, Nat.reduceEqDiff, Nat.reduceAdd, Nat.reduceMul, Nat.reduceLeDiff, Nat.reduceBEq, Nat.reduceSub, Int.reduceLT, Int.reduceLE, Int.reduceEq, Int.reduceToNat, reduceCtorEq, Nat.lt_irrefl, Nat.le_refl, d27, c27, Co.t, Co.row, ncast0, Co.rt]
  | succ d ih =>
    intro c hd
    obtain ⟨nm, k, ps, rfl⟩ := cmk_at c
    refine ev_of_wp (d := d27) rfl rfl (Nat.le_of_ble_eq_true rfl) ?_
    have e7 : (((d + 1 : Nat) : Int) = 0) = False := by simp; omega
    have w1 := wrap_pred (n := d) (by omega)
    have h10 := nid_le nm
    have hgt : ((0 : Int) < ((ps.length : Nat) : Int)) = (0 < ps.length) := propext (by omega)
    by_cases h9 : nid nm = 9
    case neg =>
      by_cases hp : ps.length = 0
      case neg =>
        have hp2 : 0 < ps.length := by omega
        simp only [go_sem, ↓reduceIte, Nat.reduceLT, Nat.reduceEqDiff, Nat.reduceAdd, Nat.reduceMul, Nat.reduceLeDiff, Nat.reduceBEq, Nat.reduceSub, Int.reduceLT, Int.reduceLE, Int.reduceEq, Int.reduceToNat, reduceCtorEq, Nat.lt_irrefl, Nat.le_refl, d27, c27, Co.t, Co.row, e7, h9, crows_len, hgt, hp2, rt_eq, hp, Bool.and_false]
        split <;> rfl
      have hp2 : (0 < ps.length) = False := eq_false (by omega)
      simp only [go_sem, ↓reduceIte, Nat.reduceLT, Nat.reduceEqDiff, Nat.reduceAdd, Nat.reduceMul, Nat.reduceLeDiff, Nat.reduceBEq, Nat.reduceSub, Int.reduceLT, Int.reduceLE, Int.reduceEq, Int.reduceToNat, reduceCtorEq, Nat.lt_irrefl, Nat.le_refl, d27, c27, Co.t, Co.row, e7, h9, crows_len, hgt, hp2]
      refine call0 (f56_ok nm) (by rfl) (by rfl) (by rfl) (by rfl) ?_
      by_cases hlt : nid nm < 8
      · have h8 : ¬ nid nm = 8 := by omega
        by_cases hk0 : k = 0
        · subst hk0; simp only [go_sem, ↓reduceIte, Nat.reduceLT, Nat.reduceEqDiff, Nat.reduceAdd, Nat.reduceMul, Nat.reduceLeDiff, Nat.reduceBEq, Nat.reduceSub, Int.reduceLT, Int.reduceLE, Int.reduceEq, Int.reduceToNat, reduceCtorEq, Nat.lt_irrefl, Nat.le_refl, hlt, rt_eq, h9, h8, hp]
        · simp only [go_sem, ↓reduceIte, Nat.reduceLT, Nat.reduceEqDiff, Nat.reduceAdd, Nat.reduceMul, Nat.reduceLeDiff, Nat.reduceBEq, Nat.reduceSub, Int.reduceLT, Int.reduceLE, Int.reduceEq, Int.reduceToNat, reduceCtorEq, Nat.lt_irrefl, Nat.le_refl, hlt, h8, hk0, rt_eq, h9]
      by_cases h8 : nid nm = 8
      · by_cases hk1 : 1 ≤ k
        case neg => simp only [go_sem, ↓reduceIte, Nat.reduceLT, Nat.reduceEqDiff, Nat.reduceAdd, Nat.reduceMul, Nat.reduceLeDiff, Nat.reduceBEq, Nat.reduceSub, Int.reduceLT, Int.reduceLE, Int.reduceEq, Int.reduceToNat, reduceCtorEq, Nat.lt_irrefl, Nat.le_refl, h8, hk1, rt_eq]
        simp only [go_sem, ↓reduceIte, Nat.reduceLT, Nat.reduceEqDiff, Nat.reduceAdd, Nat.reduceMul, Nat.reduceLeDiff, Nat.reduceBEq, Nat.reduceSub, Int.reduceLT, Int.reduceLE, Int.reduceEq, Int.reduceToNat, reduceCtorEq, Nat.lt_irrefl, Nat.le_refl, h8, hk1, rt_eq, hp]
      · simp only [go_sem, ↓reduceIte, Nat.reduceLT, Nat.reduceEqDiff, Nat.reduceAdd, Nat.reduceMul, Nat.reduceLeDiff, Nat.reduceBEq, Nat.reduceSub, Int.reduceLT, Int.reduceLE, Int.reduceEq, Int.reduceToNat, reduceCtorEq, Nat.lt_irrefl, Nat.le_refl, hlt, h8, rt_eq, h9]
    by_cases hk0 : k = 0
    case neg => simp only [go_sem, ↓reduceIte, Nat.reduceLT, Nat.reduceEqDiff, Nat.reduceAdd, Nat.reduceMul, Nat.reduceLeDiff, Nat.reduceBEq, Nat.reduceSub, Int.reduceLT, Int.reduceLE, Int.reduceEq, Int.reduceToNat, reduceCtorEq, Nat.lt_irrefl, Nat.le_refl, d27, c27, Co.t, Co.row, e7, h9, hk0, rt_eq]
    by_cases hl : ps.length = 2
    case neg => simp only [go_sem, ↓reduceIte, Nat.reduceLT, Nat.reduceEqDiff, Nat.reduceAdd, Nat.reduceMul, Nat.reduceLeDiff, Nat.reduceBEq, Nat.reduceSub, Int.reduceLT, Int.reduceLE, Int.reduceEq, Int.reduceToNat, reduceCtorEq, Nat.lt_irrefl, Nat.le_refl, d27, c27, Co.t, Co.row, e7, h9, hk0, ncast_eq2, hl, crows_len, rt_eq]
    subst hk0
    obtain ⟨a, b, rfl⟩ := co_two hl
    have ia := ih a (by omega)
    have ib := ih b (by omega)
    rw [rt_both h9]
    obtain ⟨na, ka, pa, rfl⟩ := cmk_at a
    obtain ⟨nb, kb, pb, rfl⟩ := cmk_at b
    simp only [go_sem, ↓reduceIte, Nat.reduceLT, Nat.reduceEqDiff, Nat.reduceAdd, Nat.reduceMul, Nat.reduceLeDiff, Nat.reduceBEq, Nat.reduceSub, Int.reduceLT, Int.reduceLE, Int.reduceEq, Int.reduceToNat, reduceCtorEq, Nat.lt_irrefl, Nat.le_refl, d27, c27, Co.t, e7, h9, Co.rows, Co.row, ncast2, w1]
    refine call0 (ia) (by rfl) (by rfl) (by rfl) (by rfl) ?_
    cases ha : (Co.mk na ka pa).rt d with
    | false => simp only [go_sem, ↓reduceIte, Nat.reduceLT, Nat.reduceEqDiff, Nat.reduceAdd, Nat.reduceMul, Nat.reduceLeDiff, Nat.reduceBEq, Nat.reduceSub, Int.reduceLT, Int.reduceLE, Int.reduceEq, Int.reduceToNat, reduceCtorEq, Nat.lt_irrefl, Nat.le_refl, ha]
    | true =>
      simp only [go_sem, ↓reduceIte, Nat.reduceLT, Nat.reduceEqDiff, Nat.reduceAdd, Nat.reduceMul, Nat.reduceLeDiff, Nat.reduceBEq, Nat.reduceSub, Int.reduceLT, Int.reduceLE, Int.reduceEq, Int.reduceToNat, reduceCtorEq, Nat.lt_irrefl, Nat.le_refl, ha, w1]
      refine call0 (ib) (by rfl) (by rfl) (by rfl) (by rfl) ?_
      simp only [go_sem, ↓reduceIte, Nat.reduceLT, Nat.reduceEqDiff, Nat.reduceAdd, Nat.reduceMul, Nat.reduceLeDiff, Nat.reduceBEq, Nat.reduceSub, Int.reduceLT, Int.reduceLE, Int.reduceEq, Int.reduceToNat, reduceCtorEq, Nat.lt_irrefl, Nat.le_refl]

end Go.Dev.CB

/- The types of accumulators and outcomes. -/
namespace Go.Dev.CB
open Go Go.Dev Go.Dev.Wk

/-! ### Right types are small -/

mutual
theorem ok_size : ∀ (d : Nat) (t : Ty), t.ok d = true → t.size < 2 ^ d
  | 0, t, h => by cases t; simp [Ty.ok] at h
  | d + 1, .mk k l, h => by
    simp only [Ty.ok, Bool.and_eq_true, decide_eq_true_eq] at h
    have h1 := oks_size d l h.2
    have h2 : l.length ≤ 2 := by
      rw [h.1.2]; simp only [cntN]; split
      · omega
      · split
        · omega
        · split <;> omega
    have h3 : l.length * (2 ^ d - 1) ≤ 2 * (2 ^ d - 1) := Nat.mul_le_mul_right _ h2
    have h4 : 0 < 2 ^ d := Nat.two_pow_pos d
    simp only [Ty.size]
    rw [Nat.pow_succ]; omega
theorem oks_size : ∀ (d : Nat) (l : List Ty), Ty.oks d l = true → Ty.sizes l ≤ l.length * (2 ^ d - 1)
  | _, [], _ => by simp [Ty.sizes]
  | d, t :: ts, h => by
    simp only [Ty.oks, Bool.and_eq_true] at h
    have h1 := ok_size d t h.1
    have h2 := oks_size d ts h.2
    simp only [Ty.sizes, List.length_cons, Nat.succ_mul]
    omega
end

def num : Ty := .mk 2 []
def pr (a b : Ty) : Ty := .mk 6 [a, b]

/-- Accumulators' and outcomes' types of a name that stands alone. -/
def raw (n : Nat) (t : Ty) : Option (Ty × Ty) :=
  if n = 1 then (if t.kind = 2 then some (num, num) else none)
  else if n = 2 then (if t.kind = 2 then some (pr num num, num) else none)
  else if n = 3 then (if t.kind = 5 then some (t, t) else none)
  else if n = 4 then some (.mk 9 [t], .mk 9 [t])
  else if n = 5 then some (.mk 9 [t], .mk 9 [t])
  else if n = 6 then some (.mk 7 [t], .mk 7 [t])
  else if n = 7 then some (.mk 7 [t], .mk 7 [t])
  else if n = 8 then some (.mk 7 [t], .mk 7 [t])
  else some (num, num)

def chk : Option (Ty × Ty) → Option (Ty × Ty)
  | some (a, o) => if a.ok 6 = true then if o.ok 6 = true then some (a, o) else none else none
  | none => none

def two : List (Option (Ty × Ty)) → Option (Ty × Ty)
  | [some (a, x), some (b, y)] => some (pr a b, pr x y)
  | _ => none

mutual
def Co.tp : Co → Ty → Option (Ty × Ty)
  | .mk nm _ ps, t => if nid nm = 9 then chk (two (Co.tps ps t)) else chk (raw (nid nm) t)
def Co.tps : List Co → Ty → List (Option (Ty × Ty))
  | [], _ => []
  | p :: ps, t => p.tp t :: Co.tps ps t
end

theorem tp_eq (nm : ByteArray) (k : Int) (ps : List Co) (t : Ty) : Co.tp (.mk nm k ps) t = if nid nm = 9 then chk (two (Co.tps ps t)) else chk (raw (nid nm) t) := rfl

theorem chk_some {x : Option (Ty × Ty)} {a o : Ty} (h : chk x = some (a, o)) : a.ok 6 = true ∧ o.ok 6 = true := by
  unfold chk at h
  split at h
  · split at h
    · split at h
      · cases h; exact ⟨by assumption, by assumption⟩
      · cases h
    · cases h
  · cases h

theorem tp_ok {c : Co} {t a o : Ty} (h : c.tp t = some (a, o)) : a.ok 6 = true ∧ o.ok 6 = true := by
  obtain ⟨nm, k, ps, rfl⟩ := cmk_at c
  rw [tp_eq] at h
  split at h <;> exact chk_some h

theorem rt_name {d : Nat} {nm : ByteArray} {k : Int} {ps : List Co} (h : Co.rt d (.mk nm k ps) = true) : nid nm < 10 ∧ (¬ nid nm = 9 → ps = []) ∧ (nid nm = 9 → ∃ a b d', d = d' + 1 ∧ ps = [a, b] ∧ k = 0 ∧ a.rt d' = true ∧ b.rt d' = true) := by
  cases d with
  | zero => simp [Co.rt] at h
  | succ d =>
    rw [rt_eq] at h
    by_cases h9 : nid nm = 9
    · rw [if_pos h9] at h
      simp only [Bool.and_eq_true, decide_eq_true_eq] at h
      obtain ⟨⟨hk, hl⟩, hr⟩ := h
      obtain ⟨a, b, rfl⟩ := co_two hl
      simp only [Co.rts, Bool.and_eq_true] at hr
      exact ⟨by omega, fun h => absurd h9 h, fun _ => ⟨a, b, d, rfl, rfl, hk, hr.1, hr.2.1⟩⟩
    · rw [if_neg h9] at h
      by_cases h8 : nid nm = 8
      · rw [if_pos h8] at h
        simp only [Bool.and_eq_true, decide_eq_true_eq] at h
        exact ⟨by omega, fun _ => List.length_eq_zero_iff.1 h.2, fun h => absurd h h9⟩
      · rw [if_neg h8] at h
        simp only [Bool.and_eq_true, decide_eq_true_eq] at h
        exact ⟨by omega, fun _ => List.length_eq_zero_iff.1 h.2, fun h => absurd h h9⟩

def z0 : T := .agg [.v (.s (.int .i64 0)), .v (.sl [])]
def tpT : Option (Ty × Ty) → T
  | some (a, o) => .tup [a.t, o.t, tB true]
  | none => .tup [z0, z0, tB false]

theorem num_ok : num.ok 6 = true := by decide
theorem num_size : num.size = 1 := rfl
theorem pr_size (a b : Ty) : (pr a b).size = 1 + a.size + b.size := by simp only [pr, Ty.size, Ty.sizes]; omega
theorem one_size (k : Int) (a : Ty) : (Ty.mk k [a]).size = 1 + a.size := by simp only [Ty.size, Ty.sizes]; omega

theorem f28_ok (d : Nat) : ∀ (c : Co) (t : Ty), c.rt d = true → t.ok 6 = true → Ev E false 28 [c.t, t.t] [] (tpT (c.tp t)) [] := by
  induction d with
  | zero => intro c t h; cases c; simp [Co.rt] at h
  | succ d ih =>
  intro c t hc ht
  have hts := ok_size 6 t ht
  obtain ⟨nm, k, ps, rfl⟩ := cmk_at c
  obtain ⟨hn, hps, hbo⟩ := rt_name hc
  refine ev_of_wp (d := d28) rfl rfl (Nat.le_of_ble_eq_true rfl) ?_
  by_cases h9 : nid nm = 9
  case neg =>
    obtain rfl := hps h9
    have ht0 := f10_ok 1000 t 6 (by omega) (by omega) (by omega)
    have e0 : Co.tp (.mk nm k []) t = chk (raw (nid nm) t) := by rw [tp_eq, if_neg h9]
    rw [e0]
    obtain ⟨kt, lt, rfl⟩ := mk_at t
    rcases (show nid nm = 0 ∨ nid nm = 1 ∨ nid nm = 2 ∨ nid nm = 3 ∨ nid nm = 4 ∨ nid nm = 5 ∨ nid nm = 6 ∨ nid nm = 7 ∨ nid nm = 8 by omega) with h | h | h | h | h | h | h | h | h
    · rw [h]
      have er : raw 0 (.mk kt lt) = some (num, num) := by simp [raw, Ty.kind]
      rw [er]
      have hA := f10_ok 1000 (num) 6 (by first | omega | (simp only [num_size, pr_size, one_size]; omega)) (by omega) (by omega)
      have hO := f10_ok 1000 (num) 6 (by first | omega | (simp only [num_size, pr_size, one_size]; omega)) (by omega) (by omega)
      simp only [go_sem, ↓reduceIte, Nat.reduceLT, Nat.reduceEqDiff, Nat.reduceAdd, Nat.reduceMul, Nat.reduceLeDiff, Nat.reduceBEq, Nat.reduceSub, Int.reduceLT, Int.reduceLE, Int.reduceEq, Int.reduceToNat, reduceCtorEq, Nat.lt_irrefl, Nat.le_refl, d28, c28, Co.t, Co.row, Co.rows, Ty.t, Ty.row, h]
      refine call0 (hA) (by rfl) (by rfl) (by rfl) (by rfl) ?_
      cases ha : Ty.ok 6 (num) with
      | false => simp only [go_sem, ↓reduceIte, Nat.reduceLT, Nat.reduceEqDiff, Nat.reduceAdd, Nat.reduceMul, Nat.reduceLeDiff, Nat.reduceBEq, Nat.reduceSub, Int.reduceLT, Int.reduceLE, Int.reduceEq, Int.reduceToNat, reduceCtorEq, Nat.lt_irrefl, Nat.le_refl, ha, chk, tpT, z0, Bool.false_eq_true]
      | true =>
        simp only [go_sem, ↓reduceIte, Nat.reduceLT, Nat.reduceEqDiff, Nat.reduceAdd, Nat.reduceMul, Nat.reduceLeDiff, Nat.reduceBEq, Nat.reduceSub, Int.reduceLT, Int.reduceLE, Int.reduceEq, Int.reduceToNat, reduceCtorEq, Nat.lt_irrefl, Nat.le_refl, ha]
        refine call0 (hO) (by rfl) (by rfl) (by rfl) (by rfl) ?_
        cases ho : Ty.ok 6 (num) with
        | false => first | (rw [ha] at ho; cases ho) | (rw [num_ok] at ho; cases ho)
        | true => simp only [go_sem, ↓reduceIte, Nat.reduceLT, Nat.reduceEqDiff, Nat.reduceAdd, Nat.reduceMul, Nat.reduceLeDiff, Nat.reduceBEq, Nat.reduceSub, Int.reduceLT, Int.reduceLE, Int.reduceEq, Int.reduceToNat, reduceCtorEq, Nat.lt_irrefl, Nat.le_refl, ha, ho, chk, tpT]; rfl
    · rw [h]
      by_cases hk : kt = 2
      case neg => simp only [go_sem, ↓reduceIte, Nat.reduceLT, Nat.reduceEqDiff, Nat.reduceAdd, Nat.reduceMul, Nat.reduceLeDiff, Nat.reduceBEq, Nat.reduceSub, Int.reduceLT, Int.reduceLE, Int.reduceEq, Int.reduceToNat, reduceCtorEq, Nat.lt_irrefl, Nat.le_refl, d28, c28, Co.t, Co.row, Co.rows, Ty.t, Ty.row, h, hk, raw, Ty.kind, chk, tpT, z0]
      subst hk
      have er : raw 1 (.mk 2 lt) = some (num, num) := by simp [raw, Ty.kind]
      rw [er]
      have hA := f10_ok 1000 (num) 6 (by first | omega | (simp only [num_size, pr_size, one_size]; omega)) (by omega) (by omega)
      have hO := f10_ok 1000 (num) 6 (by first | omega | (simp only [num_size, pr_size, one_size]; omega)) (by omega) (by omega)
      simp only [go_sem, ↓reduceIte, Nat.reduceLT, Nat.reduceEqDiff, Nat.reduceAdd, Nat.reduceMul, Nat.reduceLeDiff, Nat.reduceBEq, Nat.reduceSub, Int.reduceLT, Int.reduceLE, Int.reduceEq, Int.reduceToNat, reduceCtorEq, Nat.lt_irrefl, Nat.le_refl, d28, c28, Co.t, Co.row, Co.rows, Ty.t, Ty.row, h]
      refine call0 (hA) (by rfl) (by rfl) (by rfl) (by rfl) ?_
      cases ha : Ty.ok 6 (num) with
      | false => simp only [go_sem, ↓reduceIte, Nat.reduceLT, Nat.reduceEqDiff, Nat.reduceAdd, Nat.reduceMul, Nat.reduceLeDiff, Nat.reduceBEq, Nat.reduceSub, Int.reduceLT, Int.reduceLE, Int.reduceEq, Int.reduceToNat, reduceCtorEq, Nat.lt_irrefl, Nat.le_refl, ha, chk, tpT, z0, Bool.false_eq_true]
      | true =>
        simp only [go_sem, ↓reduceIte, Nat.reduceLT, Nat.reduceEqDiff, Nat.reduceAdd, Nat.reduceMul, Nat.reduceLeDiff, Nat.reduceBEq, Nat.reduceSub, Int.reduceLT, Int.reduceLE, Int.reduceEq, Int.reduceToNat, reduceCtorEq, Nat.lt_irrefl, Nat.le_refl, ha]
        refine call0 (hO) (by rfl) (by rfl) (by rfl) (by rfl) ?_
        cases ho : Ty.ok 6 (num) with
        | false => first | (rw [ha] at ho; cases ho) | (rw [num_ok] at ho; cases ho)
        | true => simp only [go_sem, ↓reduceIte, Nat.reduceLT, Nat.reduceEqDiff, Nat.reduceAdd, Nat.reduceMul, Nat.reduceLeDiff, Nat.reduceBEq, Nat.reduceSub, Int.reduceLT, Int.reduceLE, Int.reduceEq, Int.reduceToNat, reduceCtorEq, Nat.lt_irrefl, Nat.le_refl, ha, ho, chk, tpT]; rfl
    · rw [h]
      by_cases hk : kt = 2
      case neg => simp only [go_sem, ↓reduceIte, Nat.reduceLT, Nat.reduceEqDiff, Nat.reduceAdd, Nat.reduceMul, Nat.reduceLeDiff, Nat.reduceBEq, Nat.reduceSub, Int.reduceLT, Int.reduceLE, Int.reduceEq, Int.reduceToNat, reduceCtorEq, Nat.lt_irrefl, Nat.le_refl, d28, c28, Co.t, Co.row, Co.rows, Ty.t, Ty.row, h, hk, raw, Ty.kind, chk, tpT, z0]
      subst hk
      have er : raw 2 (.mk 2 lt) = some (pr num num, num) := by simp [raw, Ty.kind]
      rw [er]
      have hA := f10_ok 1000 (pr num num) 6 (by first | omega | (simp only [num_size, pr_size, one_size]; omega)) (by omega) (by omega)
      have hO := f10_ok 1000 (num) 6 (by first | omega | (simp only [num_size, pr_size, one_size]; omega)) (by omega) (by omega)
      simp only [go_sem, ↓reduceIte, Nat.reduceLT, Nat.reduceEqDiff, Nat.reduceAdd, Nat.reduceMul, Nat.reduceLeDiff, Nat.reduceBEq, Nat.reduceSub, Int.reduceLT, Int.reduceLE, Int.reduceEq, Int.reduceToNat, reduceCtorEq, Nat.lt_irrefl, Nat.le_refl, d28, c28, Co.t, Co.row, Co.rows, Ty.t, Ty.row, h]
      refine call0 (hA) (by rfl) (by rfl) (by rfl) (by rfl) ?_
      cases ha : Ty.ok 6 (pr num num) with
      | false => simp only [go_sem, ↓reduceIte, Nat.reduceLT, Nat.reduceEqDiff, Nat.reduceAdd, Nat.reduceMul, Nat.reduceLeDiff, Nat.reduceBEq, Nat.reduceSub, Int.reduceLT, Int.reduceLE, Int.reduceEq, Int.reduceToNat, reduceCtorEq, Nat.lt_irrefl, Nat.le_refl, ha, chk, tpT, z0, Bool.false_eq_true]
      | true =>
        simp only [go_sem, ↓reduceIte, Nat.reduceLT, Nat.reduceEqDiff, Nat.reduceAdd, Nat.reduceMul, Nat.reduceLeDiff, Nat.reduceBEq, Nat.reduceSub, Int.reduceLT, Int.reduceLE, Int.reduceEq, Int.reduceToNat, reduceCtorEq, Nat.lt_irrefl, Nat.le_refl, ha]
        refine call0 (hO) (by rfl) (by rfl) (by rfl) (by rfl) ?_
        cases ho : Ty.ok 6 (num) with
        | false => first | (rw [ha] at ho; cases ho) | (rw [num_ok] at ho; cases ho)
        | true => simp only [go_sem, ↓reduceIte, Nat.reduceLT, Nat.reduceEqDiff, Nat.reduceAdd, Nat.reduceMul, Nat.reduceLeDiff, Nat.reduceBEq, Nat.reduceSub, Int.reduceLT, Int.reduceLE, Int.reduceEq, Int.reduceToNat, reduceCtorEq, Nat.lt_irrefl, Nat.le_refl, ha, ho, chk, tpT]; rfl
    · rw [h]
      by_cases hk : kt = 5
      case neg => simp only [go_sem, ↓reduceIte, Nat.reduceLT, Nat.reduceEqDiff, Nat.reduceAdd, Nat.reduceMul, Nat.reduceLeDiff, Nat.reduceBEq, Nat.reduceSub, Int.reduceLT, Int.reduceLE, Int.reduceEq, Int.reduceToNat, reduceCtorEq, Nat.lt_irrefl, Nat.le_refl, d28, c28, Co.t, Co.row, Co.rows, Ty.t, Ty.row, h, hk, raw, Ty.kind, chk, tpT, z0]
      subst hk
      have er : raw 3 (.mk 5 lt) = some (.mk 5 lt, .mk 5 lt) := by simp [raw, Ty.kind]
      rw [er]
      have hA := f10_ok 1000 (.mk 5 lt) 6 (by first | omega | (simp only [num_size, pr_size, one_size]; omega)) (by omega) (by omega)
      have hO := f10_ok 1000 (.mk 5 lt) 6 (by first | omega | (simp only [num_size, pr_size, one_size]; omega)) (by omega) (by omega)
      simp only [go_sem, ↓reduceIte, Nat.reduceLT, Nat.reduceEqDiff, Nat.reduceAdd, Nat.reduceMul, Nat.reduceLeDiff, Nat.reduceBEq, Nat.reduceSub, Int.reduceLT, Int.reduceLE, Int.reduceEq, Int.reduceToNat, reduceCtorEq, Nat.lt_irrefl, Nat.le_refl, d28, c28, Co.t, Co.row, Co.rows, Ty.t, Ty.row, h]
      refine call0 (hA) (by rfl) (by rfl) (by rfl) (by rfl) ?_
      cases ha : Ty.ok 6 (.mk 5 lt) with
      | false => simp only [go_sem, ↓reduceIte, Nat.reduceLT, Nat.reduceEqDiff, Nat.reduceAdd, Nat.reduceMul, Nat.reduceLeDiff, Nat.reduceBEq, Nat.reduceSub, Int.reduceLT, Int.reduceLE, Int.reduceEq, Int.reduceToNat, reduceCtorEq, Nat.lt_irrefl, Nat.le_refl, ha, chk, tpT, z0, Bool.false_eq_true]
      | true =>
        simp only [go_sem, ↓reduceIte, Nat.reduceLT, Nat.reduceEqDiff, Nat.reduceAdd, Nat.reduceMul, Nat.reduceLeDiff, Nat.reduceBEq, Nat.reduceSub, Int.reduceLT, Int.reduceLE, Int.reduceEq, Int.reduceToNat, reduceCtorEq, Nat.lt_irrefl, Nat.le_refl, ha]
        refine call0 (hO) (by rfl) (by rfl) (by rfl) (by rfl) ?_
        cases ho : Ty.ok 6 (.mk 5 lt) with
        | false => first | (rw [ha] at ho; cases ho) | (rw [num_ok] at ho; cases ho)
        | true => simp only [go_sem, ↓reduceIte, Nat.reduceLT, Nat.reduceEqDiff, Nat.reduceAdd, Nat.reduceMul, Nat.reduceLeDiff, Nat.reduceBEq, Nat.reduceSub, Int.reduceLT, Int.reduceLE, Int.reduceEq, Int.reduceToNat, reduceCtorEq, Nat.lt_irrefl, Nat.le_refl, ha, ho, chk, tpT]; rfl
    · rw [h]
      have er : raw 4 (.mk kt lt) = some (.mk 9 [.mk kt lt], .mk 9 [.mk kt lt]) := by simp [raw, Ty.kind]
      rw [er]
      have hA := f10_ok 1000 (.mk 9 [.mk kt lt]) 6 (by first | omega | (simp only [num_size, pr_size, one_size]; omega)) (by omega) (by omega)
      have hO := f10_ok 1000 (.mk 9 [.mk kt lt]) 6 (by first | omega | (simp only [num_size, pr_size, one_size]; omega)) (by omega) (by omega)
      simp only [go_sem, ↓reduceIte, Nat.reduceLT, Nat.reduceEqDiff, Nat.reduceAdd, Nat.reduceMul, Nat.reduceLeDiff, Nat.reduceBEq, Nat.reduceSub, Int.reduceLT, Int.reduceLE, Int.reduceEq, Int.reduceToNat, reduceCtorEq, Nat.lt_irrefl, Nat.le_refl, d28, c28, Co.t, Co.row, Co.rows, Ty.t, Ty.row, h]
      refine call0 (hA) (by rfl) (by rfl) (by rfl) (by rfl) ?_
      cases ha : Ty.ok 6 (.mk 9 [.mk kt lt]) with
      | false => simp only [go_sem, ↓reduceIte, Nat.reduceLT, Nat.reduceEqDiff, Nat.reduceAdd, Nat.reduceMul, Nat.reduceLeDiff, Nat.reduceBEq, Nat.reduceSub, Int.reduceLT, Int.reduceLE, Int.reduceEq, Int.reduceToNat, reduceCtorEq, Nat.lt_irrefl, Nat.le_refl, ha, chk, tpT, z0, Bool.false_eq_true]
      | true =>
        simp only [go_sem, ↓reduceIte, Nat.reduceLT, Nat.reduceEqDiff, Nat.reduceAdd, Nat.reduceMul, Nat.reduceLeDiff, Nat.reduceBEq, Nat.reduceSub, Int.reduceLT, Int.reduceLE, Int.reduceEq, Int.reduceToNat, reduceCtorEq, Nat.lt_irrefl, Nat.le_refl, ha]
        refine call0 (hO) (by rfl) (by rfl) (by rfl) (by rfl) ?_
        cases ho : Ty.ok 6 (.mk 9 [.mk kt lt]) with
        | false => first | (rw [ha] at ho; cases ho) | (rw [num_ok] at ho; cases ho)
        | true => simp only [go_sem, ↓reduceIte, Nat.reduceLT, Nat.reduceEqDiff, Nat.reduceAdd, Nat.reduceMul, Nat.reduceLeDiff, Nat.reduceBEq, Nat.reduceSub, Int.reduceLT, Int.reduceLE, Int.reduceEq, Int.reduceToNat, reduceCtorEq, Nat.lt_irrefl, Nat.le_refl, ha, ho, chk, tpT]; rfl
    · rw [h]
      have er : raw 5 (.mk kt lt) = some (.mk 9 [.mk kt lt], .mk 9 [.mk kt lt]) := by simp [raw, Ty.kind]
      rw [er]
      have hA := f10_ok 1000 (.mk 9 [.mk kt lt]) 6 (by first | omega | (simp only [num_size, pr_size, one_size]; omega)) (by omega) (by omega)
      have hO := f10_ok 1000 (.mk 9 [.mk kt lt]) 6 (by first | omega | (simp only [num_size, pr_size, one_size]; omega)) (by omega) (by omega)
      simp only [go_sem, ↓reduceIte, Nat.reduceLT, Nat.reduceEqDiff, Nat.reduceAdd, Nat.reduceMul, Nat.reduceLeDiff, Nat.reduceBEq, Nat.reduceSub, Int.reduceLT, Int.reduceLE, Int.reduceEq, Int.reduceToNat, reduceCtorEq, Nat.lt_irrefl, Nat.le_refl, d28, c28, Co.t, Co.row, Co.rows, Ty.t, Ty.row, h]
      refine call0 (hA) (by rfl) (by rfl) (by rfl) (by rfl) ?_
      cases ha : Ty.ok 6 (.mk 9 [.mk kt lt]) with
      | false => simp only [go_sem, ↓reduceIte, Nat.reduceLT, Nat.reduceEqDiff, Nat.reduceAdd, Nat.reduceMul, Nat.reduceLeDiff, Nat.reduceBEq, Nat.reduceSub, Int.reduceLT, Int.reduceLE, Int.reduceEq, Int.reduceToNat, reduceCtorEq, Nat.lt_irrefl, Nat.le_refl, ha, chk, tpT, z0, Bool.false_eq_true]
      | true =>
        simp only [go_sem, ↓reduceIte, Nat.reduceLT, Nat.reduceEqDiff, Nat.reduceAdd, Nat.reduceMul, Nat.reduceLeDiff, Nat.reduceBEq, Nat.reduceSub, Int.reduceLT, Int.reduceLE, Int.reduceEq, Int.reduceToNat, reduceCtorEq, Nat.lt_irrefl, Nat.le_refl, ha]
        refine call0 (hO) (by rfl) (by rfl) (by rfl) (by rfl) ?_
        cases ho : Ty.ok 6 (.mk 9 [.mk kt lt]) with
        | false => first | (rw [ha] at ho; cases ho) | (rw [num_ok] at ho; cases ho)
        | true => simp only [go_sem, ↓reduceIte, Nat.reduceLT, Nat.reduceEqDiff, Nat.reduceAdd, Nat.reduceMul, Nat.reduceLeDiff, Nat.reduceBEq, Nat.reduceSub, Int.reduceLT, Int.reduceLE, Int.reduceEq, Int.reduceToNat, reduceCtorEq, Nat.lt_irrefl, Nat.le_refl, ha, ho, chk, tpT]; rfl
    · rw [h]
      have er : raw 6 (.mk kt lt) = some (.mk 7 [.mk kt lt], .mk 7 [.mk kt lt]) := by simp [raw, Ty.kind]
      rw [er]
      have hA := f10_ok 1000 (.mk 7 [.mk kt lt]) 6 (by first | omega | (simp only [num_size, pr_size, one_size]; omega)) (by omega) (by omega)
      have hO := f10_ok 1000 (.mk 7 [.mk kt lt]) 6 (by first | omega | (simp only [num_size, pr_size, one_size]; omega)) (by omega) (by omega)
      simp only [go_sem, ↓reduceIte, Nat.reduceLT, Nat.reduceEqDiff, Nat.reduceAdd, Nat.reduceMul, Nat.reduceLeDiff, Nat.reduceBEq, Nat.reduceSub, Int.reduceLT, Int.reduceLE, Int.reduceEq, Int.reduceToNat, reduceCtorEq, Nat.lt_irrefl, Nat.le_refl, d28, c28, Co.t, Co.row, Co.rows, Ty.t, Ty.row, h]
      refine call0 (hA) (by rfl) (by rfl) (by rfl) (by rfl) ?_
      cases ha : Ty.ok 6 (.mk 7 [.mk kt lt]) with
      | false => simp only [go_sem, ↓reduceIte, Nat.reduceLT, Nat.reduceEqDiff, Nat.reduceAdd, Nat.reduceMul, Nat.reduceLeDiff, Nat.reduceBEq, Nat.reduceSub, Int.reduceLT, Int.reduceLE, Int.reduceEq, Int.reduceToNat, reduceCtorEq, Nat.lt_irrefl, Nat.le_refl, ha, chk, tpT, z0, Bool.false_eq_true]
      | true =>
        simp only [go_sem, ↓reduceIte, Nat.reduceLT, Nat.reduceEqDiff, Nat.reduceAdd, Nat.reduceMul, Nat.reduceLeDiff, Nat.reduceBEq, Nat.reduceSub, Int.reduceLT, Int.reduceLE, Int.reduceEq, Int.reduceToNat, reduceCtorEq, Nat.lt_irrefl, Nat.le_refl, ha]
        refine call0 (hO) (by rfl) (by rfl) (by rfl) (by rfl) ?_
        cases ho : Ty.ok 6 (.mk 7 [.mk kt lt]) with
        | false => first | (rw [ha] at ho; cases ho) | (rw [num_ok] at ho; cases ho)
        | true => simp only [go_sem, ↓reduceIte, Nat.reduceLT, Nat.reduceEqDiff, Nat.reduceAdd, Nat.reduceMul, Nat.reduceLeDiff, Nat.reduceBEq, Nat.reduceSub, Int.reduceLT, Int.reduceLE, Int.reduceEq, Int.reduceToNat, reduceCtorEq, Nat.lt_irrefl, Nat.le_refl, ha, ho, chk, tpT]; rfl
    · rw [h]
      have er : raw 7 (.mk kt lt) = some (.mk 7 [.mk kt lt], .mk 7 [.mk kt lt]) := by simp [raw, Ty.kind]
      rw [er]
      have hA := f10_ok 1000 (.mk 7 [.mk kt lt]) 6 (by first | omega | (simp only [num_size, pr_size, one_size]; omega)) (by omega) (by omega)
      have hO := f10_ok 1000 (.mk 7 [.mk kt lt]) 6 (by first | omega | (simp only [num_size, pr_size, one_size]; omega)) (by omega) (by omega)
      simp only [go_sem, ↓reduceIte, Nat.reduceLT, Nat.reduceEqDiff, Nat.reduceAdd, Nat.reduceMul, Nat.reduceLeDiff, Nat.reduceBEq, Nat.reduceSub, Int.reduceLT, Int.reduceLE, Int.reduceEq, Int.reduceToNat, reduceCtorEq, Nat.lt_irrefl, Nat.le_refl, d28, c28, Co.t, Co.row, Co.rows, Ty.t, Ty.row, h]
      refine call0 (hA) (by rfl) (by rfl) (by rfl) (by rfl) ?_
      cases ha : Ty.ok 6 (.mk 7 [.mk kt lt]) with
      | false => simp only [go_sem, ↓reduceIte, Nat.reduceLT, Nat.reduceEqDiff, Nat.reduceAdd, Nat.reduceMul, Nat.reduceLeDiff, Nat.reduceBEq, Nat.reduceSub, Int.reduceLT, Int.reduceLE, Int.reduceEq, Int.reduceToNat, reduceCtorEq, Nat.lt_irrefl, Nat.le_refl, ha, chk, tpT, z0, Bool.false_eq_true]
      | true =>
        simp only [go_sem, ↓reduceIte, Nat.reduceLT, Nat.reduceEqDiff, Nat.reduceAdd, Nat.reduceMul, Nat.reduceLeDiff, Nat.reduceBEq, Nat.reduceSub, Int.reduceLT, Int.reduceLE, Int.reduceEq, Int.reduceToNat, reduceCtorEq, Nat.lt_irrefl, Nat.le_refl, ha]
        refine call0 (hO) (by rfl) (by rfl) (by rfl) (by rfl) ?_
        cases ho : Ty.ok 6 (.mk 7 [.mk kt lt]) with
        | false => first | (rw [ha] at ho; cases ho) | (rw [num_ok] at ho; cases ho)
        | true => simp only [go_sem, ↓reduceIte, Nat.reduceLT, Nat.reduceEqDiff, Nat.reduceAdd, Nat.reduceMul, Nat.reduceLeDiff, Nat.reduceBEq, Nat.reduceSub, Int.reduceLT, Int.reduceLE, Int.reduceEq, Int.reduceToNat, reduceCtorEq, Nat.lt_irrefl, Nat.le_refl, ha, ho, chk, tpT]; rfl
    · rw [h]
      have er : raw 8 (.mk kt lt) = some (.mk 7 [.mk kt lt], .mk 7 [.mk kt lt]) := by simp [raw, Ty.kind]
      rw [er]
      have hA := f10_ok 1000 (.mk 7 [.mk kt lt]) 6 (by first | omega | (simp only [num_size, pr_size, one_size]; omega)) (by omega) (by omega)
      have hO := f10_ok 1000 (.mk 7 [.mk kt lt]) 6 (by first | omega | (simp only [num_size, pr_size, one_size]; omega)) (by omega) (by omega)
      simp only [go_sem, ↓reduceIte, Nat.reduceLT, Nat.reduceEqDiff, Nat.reduceAdd, Nat.reduceMul, Nat.reduceLeDiff, Nat.reduceBEq, Nat.reduceSub, Int.reduceLT, Int.reduceLE, Int.reduceEq, Int.reduceToNat, reduceCtorEq, Nat.lt_irrefl, Nat.le_refl, d28, c28, Co.t, Co.row, Co.rows, Ty.t, Ty.row, h]
      refine call0 (hA) (by rfl) (by rfl) (by rfl) (by rfl) ?_
      cases ha : Ty.ok 6 (.mk 7 [.mk kt lt]) with
      | false => simp only [go_sem, ↓reduceIte, Nat.reduceLT, Nat.reduceEqDiff, Nat.reduceAdd, Nat.reduceMul, Nat.reduceLeDiff, Nat.reduceBEq, Nat.reduceSub, Int.reduceLT, Int.reduceLE, Int.reduceEq, Int.reduceToNat, reduceCtorEq, Nat.lt_irrefl, Nat.le_refl, ha, chk, tpT, z0, Bool.false_eq_true]
      | true =>
        simp only [go_sem, ↓reduceIte, Nat.reduceLT, Nat.reduceEqDiff, Nat.reduceAdd, Nat.reduceMul, Nat.reduceLeDiff, Nat.reduceBEq, Nat.reduceSub, Int.reduceLT, Int.reduceLE, Int.reduceEq, Int.reduceToNat, reduceCtorEq, Nat.lt_irrefl, Nat.le_refl, ha]
        refine call0 (hO) (by rfl) (by rfl) (by rfl) (by rfl) ?_
        cases ho : Ty.ok 6 (.mk 7 [.mk kt lt]) with
        | false => first | (rw [ha] at ho; cases ho) | (rw [num_ok] at ho; cases ho)
        | true => simp only [go_sem, ↓reduceIte, Nat.reduceLT, Nat.reduceEqDiff, Nat.reduceAdd, Nat.reduceMul, Nat.reduceLeDiff, Nat.reduceBEq, Nat.reduceSub, Int.reduceLT, Int.reduceLE, Int.reduceEq, Int.reduceToNat, reduceCtorEq, Nat.lt_irrefl, Nat.le_refl, ha, ho, chk, tpT]; rfl
  obtain ⟨a, b, d', hd', rfl, rfl, ha, hb⟩ := hbo h9
  obtain rfl : d = d' := by omega
  have ia := ih a t ha ht
  have ib := ih b t hb ht
  have e0 : Co.tp (.mk nm 0 [a, b]) t = chk (two [a.tp t, b.tp t]) := by rw [tp_eq, if_pos h9]; rfl
  rw [e0]
  have oka : ∀ x y, a.tp t = some (x, y) → x.size < 64 ∧ y.size < 64 := fun x y h => ⟨ok_size 6 x (tp_ok h).1, ok_size 6 y (tp_ok h).2⟩
  have okb : ∀ x y, b.tp t = some (x, y) → x.size < 64 ∧ y.size < 64 := fun x y h => ⟨ok_size 6 x (tp_ok h).1, ok_size 6 y (tp_ok h).2⟩
  obtain ⟨na, ka, pa, rfl⟩ := cmk_at a
  obtain ⟨nb, kb, pb, rfl⟩ := cmk_at b
  obtain ⟨kt, lt, rfl⟩ := mk_at t
  simp only [go_sem, ↓reduceIte, Nat.reduceLT, Nat.reduceEqDiff, Nat.reduceAdd, Nat.reduceMul, Nat.reduceLeDiff, Nat.reduceBEq, Nat.reduceSub, Int.reduceLT, Int.reduceLE, Int.reduceEq, Int.reduceToNat, reduceCtorEq, Nat.lt_irrefl, Nat.le_refl, d28, c28, Co.t, Co.row, Co.rows, Ty.t, Ty.row, h9]
  have fin : ∀ q1 q2 : Option (Ty × Ty), Co.tp (.mk na ka pa) (.mk kt lt) = q1 → Co.tp (.mk nb kb pb) (.mk kt lt) = q2 → (q1 = none ∨ q2 = none) → chk (two [Co.tp (.mk na ka pa) (.mk kt lt), Co.tp (.mk nb kb pb) (.mk kt lt)]) = none := by
    intro q1 q2 e1 e2 h
    rw [e1, e2]
    rcases h with rfl | rfl
    · rfl
    · cases q1 <;> rfl
  cases ta : Co.tp (.mk na ka pa) (.mk kt lt) with
  | none =>
    rw [← ta, fin _ _ ta rfl (.inl rfl)]
    rw [ta, tpT] at ia
    refine call0 (ia) (by rfl) (by rfl) (by rfl) (by rfl) ?_
    cases tb : Co.tp (.mk nb kb pb) (.mk kt lt) with
    | none =>
      rw [tb, tpT] at ib
      simp only [go_sem, ↓reduceIte, Nat.reduceLT, Nat.reduceEqDiff, Nat.reduceAdd, Nat.reduceMul, Nat.reduceLeDiff, Nat.reduceBEq, Nat.reduceSub, Int.reduceLT, Int.reduceLE, Int.reduceEq, Int.reduceToNat, reduceCtorEq, Nat.lt_irrefl, Nat.le_refl, z0]
      refine call0 (ib) (by rfl) (by rfl) (by rfl) (by rfl) ?_
      simp only [go_sem, ↓reduceIte, Nat.reduceLT, Nat.reduceEqDiff, Nat.reduceAdd, Nat.reduceMul, Nat.reduceLeDiff, Nat.reduceBEq, Nat.reduceSub, Int.reduceLT, Int.reduceLE, Int.reduceEq, Int.reduceToNat, reduceCtorEq, Nat.lt_irrefl, Nat.le_refl, z0, tpT]
    | some q =>
      obtain ⟨x2, y2⟩ := q
      rw [tb, tpT] at ib
      obtain ⟨kx2, lx2, rfl⟩ := mk_at x2
      obtain ⟨ky2, ly2, rfl⟩ := mk_at y2
      simp only [go_sem, ↓reduceIte, Nat.reduceLT, Nat.reduceEqDiff, Nat.reduceAdd, Nat.reduceMul, Nat.reduceLeDiff, Nat.reduceBEq, Nat.reduceSub, Int.reduceLT, Int.reduceLE, Int.reduceEq, Int.reduceToNat, reduceCtorEq, Nat.lt_irrefl, Nat.le_refl, z0]
      refine call0 (ib) (by rfl) (by rfl) (by rfl) (by rfl) ?_
      simp only [go_sem, ↓reduceIte, Nat.reduceLT, Nat.reduceEqDiff, Nat.reduceAdd, Nat.reduceMul, Nat.reduceLeDiff, Nat.reduceBEq, Nat.reduceSub, Int.reduceLT, Int.reduceLE, Int.reduceEq, Int.reduceToNat, reduceCtorEq, Nat.lt_irrefl, Nat.le_refl, Ty.t, Ty.row, z0, tpT]
  | some q =>
    obtain ⟨x1, y1⟩ := q
    obtain ⟨s1, s2⟩ := oka _ _ ta
    rw [← ta]
    rw [ta, tpT] at ia
    obtain ⟨kx1, lx1, rfl⟩ := mk_at x1
    obtain ⟨ky1, ly1, rfl⟩ := mk_at y1
    refine call0 (ia) (by rfl) (by rfl) (by rfl) (by rfl) ?_
    simp only [go_sem, ↓reduceIte, Nat.reduceLT, Nat.reduceEqDiff, Nat.reduceAdd, Nat.reduceMul, Nat.reduceLeDiff, Nat.reduceBEq, Nat.reduceSub, Int.reduceLT, Int.reduceLE, Int.reduceEq, Int.reduceToNat, reduceCtorEq, Nat.lt_irrefl, Nat.le_refl, Ty.t, Ty.row]
    cases tb : Co.tp (.mk nb kb pb) (.mk kt lt) with
    | none =>
      rw [← tb, fin _ _ rfl tb (.inr rfl)]
      rw [tb, tpT] at ib
      refine call0 (ib) (by rfl) (by rfl) (by rfl) (by rfl) ?_
      simp only [go_sem, ↓reduceIte, Nat.reduceLT, Nat.reduceEqDiff, Nat.reduceAdd, Nat.reduceMul, Nat.reduceLeDiff, Nat.reduceBEq, Nat.reduceSub, Int.reduceLT, Int.reduceLE, Int.reduceEq, Int.reduceToNat, reduceCtorEq, Nat.lt_irrefl, Nat.le_refl, z0, tpT]
    | some q =>
      obtain ⟨x2, y2⟩ := q
      obtain ⟨s3, s4⟩ := okb _ _ tb
      rw [tb, tpT] at ib
      obtain ⟨kx2, lx2, rfl⟩ := mk_at x2
      obtain ⟨ky2, ly2, rfl⟩ := mk_at y2
      refine call0 (ib) (by rfl) (by rfl) (by rfl) (by rfl) ?_
      have hA := f10_ok 1000 (pr (.mk kx1 lx1) (.mk kx2 lx2)) 6 (by simp only [pr_size]; omega) (by omega) (by omega)
      have hO := f10_ok 1000 (pr (.mk ky1 ly1) (.mk ky2 ly2)) 6 (by simp only [pr_size]; omega) (by omega) (by omega)
      have e2 : two [some (Ty.mk kx1 lx1, Ty.mk ky1 ly1), some (Ty.mk kx2 lx2, Ty.mk ky2 ly2)] = some (pr (.mk kx1 lx1) (.mk kx2 lx2), pr (.mk ky1 ly1) (.mk ky2 ly2)) := rfl
      rw [ta, e2]
      simp only [go_sem, ↓reduceIte, Nat.reduceLT, Nat.reduceEqDiff, Nat.reduceAdd, Nat.reduceMul, Nat.reduceLeDiff, Nat.reduceBEq, Nat.reduceSub, Int.reduceLT, Int.reduceLE, Int.reduceEq, Int.reduceToNat, reduceCtorEq, Nat.lt_irrefl, Nat.le_refl, Ty.t, Ty.row]
      refine call0 (hA) (by rfl) (by rfl) (by rfl) (by rfl) ?_
      cases ha' : Ty.ok 6 (pr (.mk kx1 lx1) (.mk kx2 lx2)) with
      | false => simp only [go_sem, ↓reduceIte, Nat.reduceLT, Nat.reduceEqDiff, Nat.reduceAdd, Nat.reduceMul, Nat.reduceLeDiff, Nat.reduceBEq, Nat.reduceSub, Int.reduceLT, Int.reduceLE, Int.reduceEq, Int.reduceToNat, reduceCtorEq, Nat.lt_irrefl, Nat.le_refl, ha', chk, tpT, z0, Bool.false_eq_true]
      | true =>
        simp only [go_sem, ↓reduceIte, Nat.reduceLT, Nat.reduceEqDiff, Nat.reduceAdd, Nat.reduceMul, Nat.reduceLeDiff, Nat.reduceBEq, Nat.reduceSub, Int.reduceLT, Int.reduceLE, Int.reduceEq, Int.reduceToNat, reduceCtorEq, Nat.lt_irrefl, Nat.le_refl, ha']
        refine call0 (hO) (by rfl) (by rfl) (by rfl) (by rfl) ?_
        cases ho' : Ty.ok 6 (pr (.mk ky1 ly1) (.mk ky2 ly2)) with
        | false => simp only [go_sem, ↓reduceIte, Nat.reduceLT, Nat.reduceEqDiff, Nat.reduceAdd, Nat.reduceMul, Nat.reduceLeDiff, Nat.reduceBEq, Nat.reduceSub, Int.reduceLT, Int.reduceLE, Int.reduceEq, Int.reduceToNat, reduceCtorEq, Nat.lt_irrefl, Nat.le_refl, ha', ho', chk, tpT, z0, Bool.false_eq_true]
        | true => simp only [go_sem, ↓reduceIte, Nat.reduceLT, Nat.reduceEqDiff, Nat.reduceAdd, Nat.reduceMul, Nat.reduceLeDiff, Nat.reduceBEq, Nat.reduceSub, Int.reduceLT, Int.reduceLE, Int.reduceEq, Int.reduceToNat, reduceCtorEq, Nat.lt_irrefl, Nat.le_refl, ha', ho', chk, tpT]; rfl

end Go.Dev.CB
