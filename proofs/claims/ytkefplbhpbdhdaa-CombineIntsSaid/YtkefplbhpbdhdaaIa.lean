/- watershedlaw08.CombineInts returns true for every input, and its argument reads afterwards as it read before. Conditions: none beside those of the given row. -/
import Derived.Test.YtkefplbhpbdhdaaCe
import Derived.Test.YtkefplbhpbdhdaaCd
set_option linter.all false
/- Values copied, small values, and a value added. -/
namespace Go.Dev.CB
open Go Go.Dev Go.Dev.Wk
set_option maxRecDepth 100000

theorem vtake_row {l : List Vl} {j : Nat} (h : j < l.length) : (Vl.rows l).take j ++ [l[j].row] = (Vl.rows l).take (j + 1) := by
  rw [vrows_map, ← List.map_take, ← List.map_take, List.take_succ_eq_append_getElem h, List.map_append]; rfl
theorem vtake_len {l : List Vl} {j : Nat} (h : j ≤ l.length) : ((Vl.rows l).take j).length = j := by
  rw [List.length_take, vrows_len]; omega

theorem f120_ok (N : Nat) : ∀ v : Vl, v.size ≤ N → N ≤ 100000 → Ev E false 120 [v.t] [] v.t [] := by
  induction N with
  | zero => intro v hs; obtain ⟨k, n, p, l, rfl⟩ := vmk_at v; simp only [Vl.size] at hs; omega
  | succ N ih =>
  intro v hs hN
  obtain ⟨k, n, p, l, rfl⟩ := vmk_at v
  simp only [Vl.size] at hs
  have hl := vlen_size l
  refine ev_of_wp (d := d120) rfl rfl (Nat.le_of_ble_eq_true rfl) ?_
  simp only [go_sem, ↓reduceIte, Nat.reduceLT, Nat.reduceEqDiff, Nat.reduceAdd, Nat.reduceMul, Nat.reduceLeDiff, Nat.reduceBEq, Nat.reduceSub, Int.reduceLT, Int.reduceLE, Int.reduceEq, Int.reduceToNat, reduceCtorEq, Nat.lt_irrefl, Nat.le_refl, d120, c120, Vl.t, Vl.row, vrows_len]
  refine loop_ind (I := fun (j : Nat) tm bx fo => j ≤ l.length ∧ fo = [] ∧ tm 1 = .one (.ref (.loc 1 1) 0) ∧ tm 2 = .one (.ref (.loc 2 1) 0) ∧ tm 7 = .one (.v (.sl (Vl.rows l))) ∧ tm 8 = tI l.length ∧ tm 9 = tI j ∧
      bx 1 = ⟨1, 40, [.v (.s (.int .i64 k)), .v (.s (.int .i64 n)), .v (.s (.string ⟨#[]⟩)), .v (.s (pV p)), .v (.sl (Vl.rows l))]⟩ ∧ bx 2 = ⟨1, 40, [.v (.s (.int .i64 0)), .v (.s (.int .i64 0)), .v (.s (.string ⟨#[]⟩)), .v (.s (.complex .f64 0 0)), .esl]⟩ ∧
      ((j = 0 ∧ tm 3 = .one .esl) ∨ (0 < j ∧ tm 3 = .one (.lin 17 (bx 17).g 40 ((Vl.rows l).take j))))) (μ := fun j => l.length - j) ?_ 0 _ _ _ ⟨Nat.zero_le _, rfl, rfl, rfl, rfl, rfl, rfl, rfl, rfl, Or.inl ⟨rfl, rfl⟩⟩
  rintro j tm bx fo ⟨hj, rfl, h1, h2, h7, h8, h9, b1, b2, h3⟩ IH
  by_cases hjl : j < l.length
  · have e3 := vrows_at hjl
    have et := vtake_row hjl
    have e5 := ih l[j] (by have := vsize_mem (List.getElem_mem hjl); omega) (by omega)
    obtain ⟨k', n', p', l', he⟩ := vmk_at l[j]
    rw [he] at e3 e5 et
    simp only [Vl.row] at e3
    simp only [go_sem, ↓reduceIte, Nat.reduceLT, Nat.reduceEqDiff, Nat.reduceAdd, Nat.reduceMul, Nat.reduceLeDiff, Nat.reduceBEq, Nat.reduceSub, Int.reduceLT, Int.reduceLE, Int.reduceEq, Int.reduceToNat, reduceCtorEq, Nat.lt_irrefl, Nat.le_refl, h1, h2, h7, h8, h9, b1, b2, hjl, e3]
    refine call0 (e5) (by rfl) (by rfl) (by rfl) (by rfl) ?_
    rcases h3 with ⟨rfl, h3⟩ | ⟨hj0, h3⟩
    · simp only [go_sem, ↓reduceIte, Nat.reduceLT, Nat.reduceEqDiff, Nat.reduceAdd, Nat.reduceMul, Nat.reduceLeDiff, Nat.reduceBEq, Nat.reduceSub, Int.reduceLT, Int.reduceLE, Int.reduceEq, Int.reduceToNat, reduceCtorEq, Nat.lt_irrefl, Nat.le_refl, h1, h2, h7, h8, h9, b1, b2, h3, Vl.t, Vl.row, appEsl, okB (n := 0 + 1) (b := 72) (by omega)]
      refine IH 1 _ _ _ (by omega) ?_
      refine ⟨by omega, rfl, h1, h2, h7, h8, rfl, b1, b2, Or.inr ⟨by omega, ?_⟩⟩
      simp only [List.take_zero, List.nil_append, Nat.zero_add] at et
      rw [← et]; rfl
    · simp only [go_sem, ↓reduceIte, Nat.reduceLT, Nat.reduceEqDiff, Nat.reduceAdd, Nat.reduceMul, Nat.reduceLeDiff, Nat.reduceBEq, Nat.reduceSub, Int.reduceLT, Int.reduceLE, Int.reduceEq, Int.reduceToNat, reduceCtorEq, Nat.lt_irrefl, Nat.le_refl, h1, h2, h7, h8, h9, b1, b2, h3, Vl.t, Vl.row, appLin, allSz_take (vsz_rows l) j, vtake_len hj, okB (n := j + (0 + 1)) (b := 72) (by omega)]
      refine IH (j + 1) _ _ _ (by omega) ?_
      refine ⟨by omega, rfl, h1, h2, h7, h8, ?_, b1, b2, Or.inr ⟨by omega, ?_⟩⟩
      · show T.one (C.v (V.s (Value.int IntKind.i64 (IntKind.i64.wrap (j + 1))))) = _
        rw [wrap_succ (by omega)]; rfl
      · rw [← et]; rfl
  · obtain rfl : j = l.length := by omega
    simp only [go_sem, ↓reduceIte, Nat.reduceLT, Nat.reduceEqDiff, Nat.reduceAdd, Nat.reduceMul, Nat.reduceLeDiff, Nat.reduceBEq, Nat.reduceSub, Int.reduceLT, Int.reduceLE, Int.reduceEq, Int.reduceToNat, reduceCtorEq, Nat.lt_irrefl, Nat.le_refl, h1, h2, h7, h8, h9, b1, b2]
    rcases h3 with ⟨h0, h3⟩ | ⟨_, h3⟩
    · obtain rfl : l = [] := List.length_eq_zero_iff.1 h0
      simp only [go_sem, ↓reduceIte, Nat.reduceLT, Nat.reduceEqDiff, Nat.reduceAdd, Nat.reduceMul, Nat.reduceLeDiff, Nat.reduceBEq, Nat.reduceSub, Int.reduceLT, Int.reduceLE, Int.reduceEq, Int.reduceToNat, reduceCtorEq, Nat.lt_irrefl, Nat.le_refl, h1, h2, b1, b2, h3, Vl.rows]
    · rw [List.take_of_length_le (by rw [vrows_len]; exact Nat.le_refl _)] at h3
      simp only [go_sem, ↓reduceIte, Nat.reduceLT, Nat.reduceEqDiff, Nat.reduceAdd, Nat.reduceMul, Nat.reduceLeDiff, Nat.reduceBEq, Nat.reduceSub, Int.reduceLT, Int.reduceLE, Int.reduceEq, Int.reduceToNat, reduceCtorEq, Nat.lt_irrefl, Nat.le_refl, h1, h2, b1, b2, h3]

theorem f81_ok {v : Vl} (h : Good1 v) : Ev E false 81 [v.t] [] v.t [] := by
  have h1 := f61_ok h.1 h.2.1 h.2.2
  have h2 := f120_ok v.size v (Nat.le_refl _) (by have := h.2.1; omega)
  obtain ⟨k, n, p, l, rfl⟩ := vmk_at v
  have h3 : Ev E false 104 [(Vl.mk k n p l).t] [] (.tup [(Vl.mk k n p l).t, tI 0]) [] := by
    refine ev_of_wp (d := d104) rfl rfl (Nat.le_of_ble_eq_true rfl) ?_
    simp only [go_sem, ↓reduceIte, Nat.reduceLT, Nat.reduceEqDiff, Nat.reduceAdd, Nat.reduceMul, Nat.reduceLeDiff, Nat.reduceBEq, Nat.reduceSub, Int.reduceLT, Int.reduceLE, Int.reduceEq, Int.reduceToNat, reduceCtorEq, Nat.lt_irrefl, Nat.le_refl, d104, c104, Vl.t, Vl.row]
    refine call0 (h1) (by rfl) (by rfl) (by rfl) (by rfl) ?_
    simp only [go_sem, ↓reduceIte, Nat.reduceLT, Nat.reduceEqDiff, Nat.reduceAdd, Nat.reduceMul, Nat.reduceLeDiff, Nat.reduceBEq, Nat.reduceSub, Int.reduceLT, Int.reduceLE, Int.reduceEq, Int.reduceToNat, reduceCtorEq, Nat.lt_irrefl, Nat.le_refl]
    refine call0 (h2) (by rfl) (by rfl) (by rfl) (by rfl) ?_
    simp only [go_sem, ↓reduceIte, Nat.reduceLT, Nat.reduceEqDiff, Nat.reduceAdd, Nat.reduceMul, Nat.reduceLeDiff, Nat.reduceBEq, Nat.reduceSub, Int.reduceLT, Int.reduceLE, Int.reduceEq, Int.reduceToNat, reduceCtorEq, Nat.lt_irrefl, Nat.le_refl, Vl.t, Vl.row]
  refine ev_of_wp (d := d81) rfl rfl (Nat.le_of_ble_eq_true rfl) ?_
  simp only [go_sem, ↓reduceIte, Nat.reduceLT, Nat.reduceEqDiff, Nat.reduceAdd, Nat.reduceMul, Nat.reduceLeDiff, Nat.reduceBEq, Nat.reduceSub, Int.reduceLT, Int.reduceLE, Int.reduceEq, Int.reduceToNat, reduceCtorEq, Nat.lt_irrefl, Nat.le_refl, d81, c81, Vl.t, Vl.row]
  refine call0 (h3) (by rfl) (by rfl) (by rfl) (by rfl) ?_
  simp only [go_sem, ↓reduceIte, Nat.reduceLT, Nat.reduceEqDiff, Nat.reduceAdd, Nat.reduceMul, Nat.reduceLeDiff, Nat.reduceBEq, Nat.reduceSub, Int.reduceLT, Int.reduceLE, Int.reduceEq, Int.reduceToNat, reduceCtorEq, Nat.lt_irrefl, Nat.le_refl, Vl.t, Vl.row]

theorem f96_ok {v : Vl} (h : Good1 v) : Ev E false 96 [v.t] [] (tB (decide (v.size ≤ 16))) [] := by
  have h1 := f86_ok h.1 h.2.1 h.2.2
  generalize v.size = sz at h1 ⊢
  generalize v.ht = ht at h1
  obtain ⟨k, n, p, l, rfl⟩ := vmk_at v
  have h3 : Ev E false 115 [(Vl.mk k n p l).t] [] (.tup [tI (sz : Nat), tI 0]) [] := by
    refine ev_of_wp (d := d115) rfl rfl (Nat.le_of_ble_eq_true rfl) ?_
    simp only [go_sem, ↓reduceIte, Nat.reduceLT, Nat.reduceEqDiff, Nat.reduceAdd, Nat.reduceMul, Nat.reduceLeDiff, Nat.reduceBEq, Nat.reduceSub, Int.reduceLT, Int.reduceLE, Int.reduceEq, Int.reduceToNat, reduceCtorEq, Nat.lt_irrefl, Nat.le_refl, d115, c115, Vl.t, Vl.row]
    refine call0 (h1) (by rfl) (by rfl) (by rfl) (by rfl) ?_
    simp only [go_sem, ↓reduceIte, Nat.reduceLT, Nat.reduceEqDiff, Nat.reduceAdd, Nat.reduceMul, Nat.reduceLeDiff, Nat.reduceBEq, Nat.reduceSub, Int.reduceLT, Int.reduceLE, Int.reduceEq, Int.reduceToNat, reduceCtorEq, Nat.lt_irrefl, Nat.le_refl]
  refine ev_of_wp (d := d96) rfl rfl (Nat.le_of_ble_eq_true rfl) ?_
  have he : ((sz : Int) ≤ 16) = (sz ≤ 16) := propext ⟨fun h => by omega, fun h => by omega⟩
  simp only [go_sem, ↓reduceIte, Nat.reduceLT, Nat.reduceEqDiff, Nat.reduceAdd, Nat.reduceMul, Nat.reduceLeDiff, Nat.reduceBEq, Nat.reduceSub, Int.reduceLT, Int.reduceLE, Int.reduceEq, Int.reduceToNat, reduceCtorEq, Nat.lt_irrefl, Nat.le_refl, d96, c96, Vl.t, Vl.row]
  refine call0 (h3) (by rfl) (by rfl) (by rfl) (by rfl) ?_
  simp only [go_sem, ↓reduceIte, Nat.reduceLT, Nat.reduceEqDiff, Nat.reduceAdd, Nat.reduceMul, Nat.reduceLeDiff, Nat.reduceBEq, Nat.reduceSub, Int.reduceLT, Int.reduceLE, Int.reduceEq, Int.reduceToNat, reduceCtorEq, Nat.lt_irrefl, Nat.le_refl, he]

theorem d01 : decide ((0 : Int) < 1) = true := rfl
theorem d11 : decide ((1 : Int) < 1) = false := rfl
theorem w01 : IntKind.i64.wrap (0 + 1) = 1 := by decide

/-- Add, of one value. -/
theorem f53_of {c : Co} {a o : Ty} (htp : c.tp num = some (a, o)) {s w r : Vl} {x : Int}
    (h78 : Ev E false 78 [opT c num, s.t] [] (tB true) []) (h80 : Ev E false 80 [opT c num, (vi x).t] [] w.t [])
    (h79 : Ev E false 79 [opT c num, s.t, w.t] [] r.t []) (hr : Good1 r) :
    Ev E false 53 [opT c num, s.t, .one (.v (.sl [(vi x).row]))] [] (.tup [r.t, tI 0]) [] := by
  have h33 := f33_ok (t := num) (vs := [vi x]) num_ok (by simp) (fun v hv => by
    rw [List.mem_singleton.1 hv]; exact ⟨⟨fine_vi x, by simp [vi, Vl.size, Vl.sizes], by simp [vi, Vl.ht, Vl.hts]⟩, fit_leaf 2 x false []⟩)
  have h81 := f81_ok hr
  obtain ⟨nm, k, ps, e⟩ := op_acc htp
  rw [opT, e] at h78 h80 h79 ⊢
  obtain ⟨ka, la, rfl⟩ := mk_at a
  obtain ⟨ko, lo, rfl⟩ := mk_at o
  obtain ⟨ks, ns, p0, ls, rfl⟩ := vmk_at s
  obtain ⟨kw, nw, pw, lw, rfl⟩ := vmk_at w
  obtain ⟨kr, nr, p1, lr, rfl⟩ := vmk_at r
  simp only [vi, Vl.row] at *
  refine ev_of_wp (d := d53) rfl rfl (Nat.le_of_ble_eq_true rfl) ?_
  simp only [go_sem, ↓reduceIte, Nat.reduceLT, Nat.reduceEqDiff, Nat.reduceAdd, Nat.reduceMul, Nat.reduceLeDiff, Nat.reduceBEq, Nat.reduceSub, Int.reduceLT, Int.reduceLE, Int.reduceEq, Int.reduceToNat, reduceCtorEq, Nat.lt_irrefl, Nat.le_refl, d53, c53, Vl.t, Vl.row, opRow, Ty.row, num, Ty.rows, Vl.rows]
  refine call0 (h78) (by rfl) (by rfl) (by rfl) (by rfl) ?_
  simp only [go_sem, ↓reduceIte, Nat.reduceLT, Nat.reduceEqDiff, Nat.reduceAdd, Nat.reduceMul, Nat.reduceLeDiff, Nat.reduceBEq, Nat.reduceSub, Int.reduceLT, Int.reduceLE, Int.reduceEq, Int.reduceToNat, reduceCtorEq, Nat.lt_irrefl, Nat.le_refl]
  refine call0 (h33) (by rfl) (by rfl) (by rfl) (by rfl) ?_
  simp only [go_sem, ↓reduceIte, Nat.reduceLT, Nat.reduceEqDiff, Nat.reduceAdd, Nat.reduceMul, Nat.reduceLeDiff, Nat.reduceBEq, Nat.reduceSub, Int.reduceLT, Int.reduceLE, Int.reduceEq, Int.reduceToNat, reduceCtorEq, Nat.lt_irrefl, Nat.le_refl]
  rw [Wk.wp_loop]
  simp only [go_sem, ↓reduceIte, Nat.reduceLT, Nat.reduceEqDiff, Nat.reduceAdd, Nat.reduceMul, Nat.reduceLeDiff, Nat.reduceBEq, Nat.reduceSub, Int.reduceLT, Int.reduceLE, Int.reduceEq, Int.reduceToNat, reduceCtorEq, Nat.lt_irrefl, Nat.le_refl, ncast1, d01]
  refine call0 (h80) (by rfl) (by rfl) (by rfl) (by rfl) ?_
  simp only [go_sem, ↓reduceIte, Nat.reduceLT, Nat.reduceEqDiff, Nat.reduceAdd, Nat.reduceMul, Nat.reduceLeDiff, Nat.reduceBEq, Nat.reduceSub, Int.reduceLT, Int.reduceLE, Int.reduceEq, Int.reduceToNat, reduceCtorEq, Nat.lt_irrefl, Nat.le_refl, Vl.t, Vl.row]
  refine call0 (h79) (by rfl) (by rfl) (by rfl) (by rfl) ?_
  simp only [go_sem, ↓reduceIte, Nat.reduceLT, Nat.reduceEqDiff, Nat.reduceAdd, Nat.reduceMul, Nat.reduceLeDiff, Nat.reduceBEq, Nat.reduceSub, Int.reduceLT, Int.reduceLE, Int.reduceEq, Int.reduceToNat, reduceCtorEq, Nat.lt_irrefl, Nat.le_refl, Vl.t, Vl.row]
  rw [Wk.wp_loop]
  simp only [go_sem, ↓reduceIte, Nat.reduceLT, Nat.reduceEqDiff, Nat.reduceAdd, Nat.reduceMul, Nat.reduceLeDiff, Nat.reduceBEq, Nat.reduceSub, Int.reduceLT, Int.reduceLE, Int.reduceEq, Int.reduceToNat, reduceCtorEq, Nat.lt_irrefl, Nat.le_refl, w01, d11]
  refine call0 (h81) (by rfl) (by rfl) (by rfl) (by rfl) ?_
  simp only [go_sem, ↓reduceIte, Nat.reduceLT, Nat.reduceEqDiff, Nat.reduceAdd, Nat.reduceMul, Nat.reduceLeDiff, Nat.reduceBEq, Nat.reduceSub, Int.reduceLT, Int.reduceLE, Int.reduceEq, Int.reduceToNat, reduceCtorEq, Nat.lt_irrefl, Nat.le_refl, Vl.t, Vl.row]

end Go.Dev.CB

/- Values put in order. -/
namespace Go.Dev.CB
open Go Go.Dev Go.Dev.Wk
set_option maxRecDepth 100000

def cmpI (a b : Int) : Int := if a < b then -1 else if b < a then 1 else 0

theorem f129_ok (a b : Int) : Ev E false 129 [tI a, tI b] [] (tI (cmpI a b)) [] := by
  have h : ∀ n, Ev E false 134 [tI n] [] (tB false) [] := by
    intro n
    refine ev_of_wp (d := d134) rfl rfl (Nat.le_of_ble_eq_true rfl) ?_
    simp only [go_sem, ↓reduceIte, Nat.reduceLT, Nat.reduceEqDiff, Nat.reduceAdd, Nat.reduceMul, Nat.reduceLeDiff, Nat.reduceBEq, Nat.reduceSub, Int.reduceLT, Int.reduceLE, Int.reduceEq, Int.reduceToNat, reduceCtorEq, Nat.lt_irrefl, Nat.le_refl, d134, c134]
  refine ev_of_wp (d := d129) rfl rfl (Nat.le_of_ble_eq_true rfl) ?_
  unfold cmpI
  simp only [go_sem, ↓reduceIte, Nat.reduceLT, Nat.reduceEqDiff, Nat.reduceAdd, Nat.reduceMul, Nat.reduceLeDiff, Nat.reduceBEq, Nat.reduceSub, Int.reduceLT, Int.reduceLE, Int.reduceEq, Int.reduceToNat, reduceCtorEq, Nat.lt_irrefl, Nat.le_refl, d129, c129]
  refine call0 (h a) (by rfl) (by rfl) (by rfl) (by rfl) ?_
  simp only [go_sem, ↓reduceIte, Nat.reduceLT, Nat.reduceEqDiff, Nat.reduceAdd, Nat.reduceMul, Nat.reduceLeDiff, Nat.reduceBEq, Nat.reduceSub, Int.reduceLT, Int.reduceLE, Int.reduceEq, Int.reduceToNat, reduceCtorEq, Nat.lt_irrefl, Nat.le_refl]
  refine call0 (h b) (by rfl) (by rfl) (by rfl) (by rfl) ?_
  simp only [go_sem, ↓reduceIte, Nat.reduceLT, Nat.reduceEqDiff, Nat.reduceAdd, Nat.reduceMul, Nat.reduceLeDiff, Nat.reduceBEq, Nat.reduceSub, Int.reduceLT, Int.reduceLE, Int.reduceEq, Int.reduceToNat, reduceCtorEq, Nat.lt_irrefl, Nat.le_refl]
  by_cases h1 : a < b
  · simp only [go_sem, ↓reduceIte, Nat.reduceLT, Nat.reduceEqDiff, Nat.reduceAdd, Nat.reduceMul, Nat.reduceLeDiff, Nat.reduceBEq, Nat.reduceSub, Int.reduceLT, Int.reduceLE, Int.reduceEq, Int.reduceToNat, reduceCtorEq, Nat.lt_irrefl, Nat.le_refl, h1]
  · by_cases h2 : b < a <;> simp only [go_sem, ↓reduceIte, Nat.reduceLT, Nat.reduceEqDiff, Nat.reduceAdd, Nat.reduceMul, Nat.reduceLeDiff, Nat.reduceBEq, Nat.reduceSub, Int.reduceLT, Int.reduceLE, Int.reduceEq, Int.reduceToNat, reduceCtorEq, Nat.lt_irrefl, Nat.le_refl, h1, h2]

theorem f130_e : Ev E false 130 [tS ⟨#[]⟩, tS ⟨#[]⟩] [] (tI 0) [] := ⟨200, by kernel_rfl⟩
theorem f131_0 : Ev E false 131 [.one (.v (.s (.float .f64 0))), .one (.v (.s (.float .f64 0)))] [] (tI 0) [] := ⟨200, by kernel_rfl⟩
theorem f132_e : Ev E false 132 [.one (.v (.sl [])), .one (.v (.sl [])), .one (.fn (.func 124) [] [])] [] (tI 0) [] := ⟨200, by kernel_rfl⟩

def fst0 : List Int → Int
  | [] => 0
  | a :: l => if a = 0 then fst0 l else a

def iRows (l : List Int) : List (List V) := l.map fun n => [.s (.int .i64 n)]
theorem iRows_len (l : List Int) : (iRows l).length = l.length := by rw [iRows, List.length_map]
theorem iRows_at {l : List Int} {j : Nat} (h : j < l.length) : (iRows l)[j]? = some [.s (.int .i64 l[j])] := by
  rw [iRows, List.getElem?_map, List.getElem?_eq_getElem h]; rfl

theorem fst0_drop {l : List Int} {j : Nat} (h : j < l.length) : fst0 (l.drop j) = if l[j] = 0 then fst0 (l.drop (j + 1)) else l[j] := by
  rw [List.drop_eq_getElem_cons h]; rfl

theorem f128_ok (l : List Int) (hl : l.length < 100000) : Ev E false 128 [.one (.v (.sl (iRows l)))] [] (tI (fst0 l)) [] := by
  refine ev_of_wp (d := d128) rfl rfl (Nat.le_of_ble_eq_true rfl) ?_
  simp only [go_sem, ↓reduceIte, Nat.reduceLT, Nat.reduceEqDiff, Nat.reduceAdd, Nat.reduceMul, Nat.reduceLeDiff, Nat.reduceBEq, Nat.reduceSub, Int.reduceLT, Int.reduceLE, Int.reduceEq, Int.reduceToNat, reduceCtorEq, Nat.lt_irrefl, Nat.le_refl, d128, c128, iRows_len]
  refine loop_ind (I := fun (j : Nat) tm bx fo => j ≤ l.length ∧ fo = [] ∧ fst0 l = fst0 (l.drop j) ∧ tm 6 = .one (.v (.sl (iRows l))) ∧ tm 3 = tI 0 ∧ tm 7 = tI l.length ∧ tm 8 = tI j) (μ := fun j => l.length - j) ?_ 0 _ _ _ ⟨Nat.zero_le _, rfl, rfl, rfl, rfl, rfl, rfl⟩
  rintro j tm bx fo ⟨hj, rfl, hf, h6, h3, h7, h8⟩ IH
  by_cases hjl : j < l.length
  · have e3 := iRows_at hjl
    rw [fst0_drop hjl] at hf
    by_cases h0 : l[j] = 0
    · rw [h0] at e3
      simp only [go_sem, ↓reduceIte, Nat.reduceLT, Nat.reduceEqDiff, Nat.reduceAdd, Nat.reduceMul, Nat.reduceLeDiff, Nat.reduceBEq, Nat.reduceSub, Int.reduceLT, Int.reduceLE, Int.reduceEq, Int.reduceToNat, reduceCtorEq, Nat.lt_irrefl, Nat.le_refl, h6, h3, h7, h8, hjl, e3]
      refine IH (j + 1) _ _ _ (by omega) ?_
      refine ⟨by omega, rfl, ?_, h6, h3, h7, ?_⟩
      · rw [hf, if_pos h0]
      · show T.one (C.v (V.s (Value.int IntKind.i64 (IntKind.i64.wrap (j + 1))))) = _
        rw [wrap_succ (by omega)]; rfl
    · rw [if_neg h0] at hf
      rw [hf]
      simp only [go_sem, ↓reduceIte, Nat.reduceLT, Nat.reduceEqDiff, Nat.reduceAdd, Nat.reduceMul, Nat.reduceLeDiff, Nat.reduceBEq, Nat.reduceSub, Int.reduceLT, Int.reduceLE, Int.reduceEq, Int.reduceToNat, reduceCtorEq, Nat.lt_irrefl, Nat.le_refl, h6, h3, h7, h8, hjl, e3, h0]
  · obtain rfl : j = l.length := by omega
    rw [List.drop_length] at hf
    rw [hf]
    simp only [go_sem, ↓reduceIte, Nat.reduceLT, Nat.reduceEqDiff, Nat.reduceAdd, Nat.reduceMul, Nat.reduceLeDiff, Nat.reduceBEq, Nat.reduceSub, Int.reduceLT, Int.reduceLE, Int.reduceEq, Int.reduceToNat, reduceCtorEq, Nat.lt_irrefl, Nat.le_refl, h6, h3, h7, h8, fst0]

theorem pB_re (k : FloatKind) (x y) : pureBi .real [.one (.v (.s (.complex k x y)))] = some (.one (.v (.s (.float k x)))) := rfl
theorem pB_im (k : FloatKind) (x y) : pureBi .imag [.one (.v (.s (.complex k x y)))] = some (.one (.v (.s (.float k y)))) := rfl

/-- Two right values whose texts are empty and which are no points, one against another. -/
theorem f124_of {ka na kb nb : Int} {la lb : List Vl} {r : Int} (h132 : fst0 [cmpI ka kb, cmpI na nb, 0] = 0 → Ev E false 132 [.one (.v (.sl (Vl.rows la))), .one (.v (.sl (Vl.rows lb))), .one (.fn (.func 124) [] [])] [] (tI r) []) :
    Ev E false 124 [(Vl.mk ka na false la).t, (Vl.mk kb nb false lb).t] [] (tI (if fst0 [cmpI ka kb, cmpI na nb, 0] = 0 then r else fst0 [cmpI ka kb, cmpI na nb, 0])) [] := by
  have e1 := f129_ok ka kb
  have e2 := f129_ok na nb
  have e4 := f128_ok [cmpI ka kb, cmpI na nb, 0] (by simp)
  have e5 := f128_ok [0, 0] (by simp)
  generalize fst0 [cmpI ka kb, cmpI na nb, 0] = q at *
  generalize cmpI ka kb = x1 at *
  generalize cmpI na nb = x2 at *
  refine ev_of_wp (d := d124) rfl rfl (Nat.le_of_ble_eq_true rfl) ?_
  simp only [go_sem, ↓reduceIte, Nat.reduceLT, Nat.reduceEqDiff, Nat.reduceAdd, Nat.reduceMul, Nat.reduceLeDiff, Nat.reduceBEq, Nat.reduceSub, Int.reduceLT, Int.reduceLE, Int.reduceEq, Int.reduceToNat, reduceCtorEq, Nat.lt_irrefl, Nat.le_refl, d124, c124, Vl.t, Vl.row, pV]
  refine call0 (e1) (by rfl) (by rfl) (by rfl) (by rfl) ?_
  simp only [go_sem, ↓reduceIte, Nat.reduceLT, Nat.reduceEqDiff, Nat.reduceAdd, Nat.reduceMul, Nat.reduceLeDiff, Nat.reduceBEq, Nat.reduceSub, Int.reduceLT, Int.reduceLE, Int.reduceEq, Int.reduceToNat, reduceCtorEq, Nat.lt_irrefl, Nat.le_refl]
  refine call0 (e2) (by rfl) (by rfl) (by rfl) (by rfl) ?_
  simp only [go_sem, ↓reduceIte, Nat.reduceLT, Nat.reduceEqDiff, Nat.reduceAdd, Nat.reduceMul, Nat.reduceLeDiff, Nat.reduceBEq, Nat.reduceSub, Int.reduceLT, Int.reduceLE, Int.reduceEq, Int.reduceToNat, reduceCtorEq, Nat.lt_irrefl, Nat.le_refl]
  refine call0 (f130_e) (by rfl) (by rfl) (by rfl) (by rfl) ?_
  simp only [go_sem, ↓reduceIte, Nat.reduceLT, Nat.reduceEqDiff, Nat.reduceAdd, Nat.reduceMul, Nat.reduceLeDiff, Nat.reduceBEq, Nat.reduceSub, Int.reduceLT, Int.reduceLE, Int.reduceEq, Int.reduceToNat, reduceCtorEq, Nat.lt_irrefl, Nat.le_refl]
  refine call0 (e4) (by rfl) (by rfl) (by rfl) (by rfl) ?_
  by_cases hq : q = 0
  · have h133 := h132 hq
    subst hq
    simp only [go_sem, ↓reduceIte, Nat.reduceLT, Nat.reduceEqDiff, Nat.reduceAdd, Nat.reduceMul, Nat.reduceLeDiff, Nat.reduceBEq, Nat.reduceSub, Int.reduceLT, Int.reduceLE, Int.reduceEq, Int.reduceToNat, reduceCtorEq, Nat.lt_irrefl, Nat.le_refl, pB_re, pB_im]
    refine call0 (f131_0) (by rfl) (by rfl) (by rfl) (by rfl) ?_
    simp only [go_sem, ↓reduceIte, Nat.reduceLT, Nat.reduceEqDiff, Nat.reduceAdd, Nat.reduceMul, Nat.reduceLeDiff, Nat.reduceBEq, Nat.reduceSub, Int.reduceLT, Int.reduceLE, Int.reduceEq, Int.reduceToNat, reduceCtorEq, Nat.lt_irrefl, Nat.le_refl, pB_re, pB_im]
    refine call0 (f131_0) (by rfl) (by rfl) (by rfl) (by rfl) ?_
    simp only [go_sem, ↓reduceIte, Nat.reduceLT, Nat.reduceEqDiff, Nat.reduceAdd, Nat.reduceMul, Nat.reduceLeDiff, Nat.reduceBEq, Nat.reduceSub, Int.reduceLT, Int.reduceLE, Int.reduceEq, Int.reduceToNat, reduceCtorEq, Nat.lt_irrefl, Nat.le_refl]
    refine call0 (e5) (by rfl) (by rfl) (by rfl) (by rfl) ?_
    simp only [go_sem, ↓reduceIte, Nat.reduceLT, Nat.reduceEqDiff, Nat.reduceAdd, Nat.reduceMul, Nat.reduceLeDiff, Nat.reduceBEq, Nat.reduceSub, Int.reduceLT, Int.reduceLE, Int.reduceEq, Int.reduceToNat, reduceCtorEq, Nat.lt_irrefl, Nat.le_refl, fst0]
    refine call0 (h133) (by rfl) (by rfl) (by rfl) (by rfl) ?_
    simp only [go_sem, ↓reduceIte, Nat.reduceLT, Nat.reduceEqDiff, Nat.reduceAdd, Nat.reduceMul, Nat.reduceLeDiff, Nat.reduceBEq, Nat.reduceSub, Int.reduceLT, Int.reduceLE, Int.reduceEq, Int.reduceToNat, reduceCtorEq, Nat.lt_irrefl, Nat.le_refl]
  · simp only [go_sem, ↓reduceIte, Nat.reduceLT, Nat.reduceEqDiff, Nat.reduceAdd, Nat.reduceMul, Nat.reduceLeDiff, Nat.reduceBEq, Nat.reduceSub, Int.reduceLT, Int.reduceLE, Int.reduceEq, Int.reduceToNat, reduceCtorEq, Nat.lt_irrefl, Nat.le_refl, hq]

theorem lt02 : decide ((0 : Int) < 2) = true := rfl
theorem lt12 : decide ((1 : Int) < 2) = true := rfl
theorem lt22 : decide ((2 : Int) < 2) = false := rfl
theorem w11 : IntKind.i64.wrap (1 + 1) = 2 := by decide

theorem f99_of {v w : Vl} {r : Int} (hv : Good1 v) (hw : Good1 w) (h : Ev E false 124 [v.t, w.t] [] (tI r) []) : Ev E false 99 [v.t, w.t] [] (tI r) [] := by
  have c127 : ∀ u, Good1 u → Ev E false 127 [u.t] [] (tB false) [] := by
    intro u hu
    have h1 := f61_ok hu.1 hu.2.1 hu.2.2
    obtain ⟨k, n, p, l, rfl⟩ := vmk_at u
    refine ev_of_wp (d := d127) rfl rfl (Nat.le_of_ble_eq_true rfl) ?_
    simp only [go_sem, ↓reduceIte, Nat.reduceLT, Nat.reduceEqDiff, Nat.reduceAdd, Nat.reduceMul, Nat.reduceLeDiff, Nat.reduceBEq, Nat.reduceSub, Int.reduceLT, Int.reduceLE, Int.reduceEq, Int.reduceToNat, reduceCtorEq, Nat.lt_irrefl, Nat.le_refl, d127, c127, Vl.t, Vl.row]
    refine call0 (h1) (by rfl) (by rfl) (by rfl) (by rfl) ?_
    simp only [go_sem, ↓reduceIte, Nat.reduceLT, Nat.reduceEqDiff, Nat.reduceAdd, Nat.reduceMul, Nat.reduceLeDiff, Nat.reduceBEq, Nat.reduceSub, Int.reduceLT, Int.reduceLE, Int.reduceEq, Int.reduceToNat, reduceCtorEq, Nat.lt_irrefl, Nat.le_refl]
  have h59 : Ev E false 59 [.one (.v (.sl (Vl.rows [v, w]))), .one (.fn (.func 127) [] [])] [] (tB false) [] := by
    have h85 : Ev E false 85 [.one (.v (.sl (Vl.rows [v, w]))), .one (.fn (.func 127) [] [])] [] (tI (-1)) [] := by
      have a1 := c127 v hv
      have a2 := c127 w hw
      obtain ⟨k, n, p, l, rfl⟩ := vmk_at v
      obtain ⟨k', n', p', l', rfl⟩ := vmk_at w
      refine ev_of_wp (d := d85) rfl rfl (Nat.le_of_ble_eq_true rfl) ?_
      simp only [go_sem, ↓reduceIte, Nat.reduceLT, Nat.reduceEqDiff, Nat.reduceAdd, Nat.reduceMul, Nat.reduceLeDiff, Nat.reduceBEq, Nat.reduceSub, Int.reduceLT, Int.reduceLE, Int.reduceEq, Int.reduceToNat, reduceCtorEq, Nat.lt_irrefl, Nat.le_refl, d85, c85, Vl.rows, Vl.row]
      rw [Wk.wp_loop]
      simp only [go_sem, ↓reduceIte, Nat.reduceLT, Nat.reduceEqDiff, Nat.reduceAdd, Nat.reduceMul, Nat.reduceLeDiff, Nat.reduceBEq, Nat.reduceSub, Int.reduceLT, Int.reduceLE, Int.reduceEq, Int.reduceToNat, reduceCtorEq, Nat.lt_irrefl, Nat.le_refl, ncast2, lt02]
      refine call0 (a1) (by rfl) (by rfl) (by rfl) (by rfl) ?_
      simp only [go_sem, ↓reduceIte, Nat.reduceLT, Nat.reduceEqDiff, Nat.reduceAdd, Nat.reduceMul, Nat.reduceLeDiff, Nat.reduceBEq, Nat.reduceSub, Int.reduceLT, Int.reduceLE, Int.reduceEq, Int.reduceToNat, reduceCtorEq, Nat.lt_irrefl, Nat.le_refl]
      rw [Wk.wp_loop]
      simp only [go_sem, ↓reduceIte, Nat.reduceLT, Nat.reduceEqDiff, Nat.reduceAdd, Nat.reduceMul, Nat.reduceLeDiff, Nat.reduceBEq, Nat.reduceSub, Int.reduceLT, Int.reduceLE, Int.reduceEq, Int.reduceToNat, reduceCtorEq, Nat.lt_irrefl, Nat.le_refl, w01, lt12]
      refine call0 (a2) (by rfl) (by rfl) (by rfl) (by rfl) ?_
      simp only [go_sem, ↓reduceIte, Nat.reduceLT, Nat.reduceEqDiff, Nat.reduceAdd, Nat.reduceMul, Nat.reduceLeDiff, Nat.reduceBEq, Nat.reduceSub, Int.reduceLT, Int.reduceLE, Int.reduceEq, Int.reduceToNat, reduceCtorEq, Nat.lt_irrefl, Nat.le_refl]
      rw [Wk.wp_loop]
      simp only [go_sem, ↓reduceIte, Nat.reduceLT, Nat.reduceEqDiff, Nat.reduceAdd, Nat.reduceMul, Nat.reduceLeDiff, Nat.reduceBEq, Nat.reduceSub, Int.reduceLT, Int.reduceLE, Int.reduceEq, Int.reduceToNat, reduceCtorEq, Nat.lt_irrefl, Nat.le_refl, w11, lt22]
    refine ev_of_wp (d := d59) rfl rfl (Nat.le_of_ble_eq_true rfl) ?_
    generalize Vl.rows [v, w] = rs at *
    simp only [go_sem, ↓reduceIte, Nat.reduceLT, Nat.reduceEqDiff, Nat.reduceAdd, Nat.reduceMul, Nat.reduceLeDiff, Nat.reduceBEq, Nat.reduceSub, Int.reduceLT, Int.reduceLE, Int.reduceEq, Int.reduceToNat, reduceCtorEq, Nat.lt_irrefl, Nat.le_refl, d59, c59]
    refine call0 (h85) (by rfl) (by rfl) (by rfl) (by rfl) ?_
    simp only [go_sem, ↓reduceIte, Nat.reduceLT, Nat.reduceEqDiff, Nat.reduceAdd, Nat.reduceMul, Nat.reduceLeDiff, Nat.reduceBEq, Nat.reduceSub, Int.reduceLT, Int.reduceLE, Int.reduceEq, Int.reduceToNat, reduceCtorEq, Nat.lt_irrefl, Nat.le_refl]
  have h123 : Ev E false 123 [.one (.v (.sl (Vl.rows [v, w])))] [] (tI 0) [] := by
    refine ev_of_wp (d := d123) rfl rfl (Nat.le_of_ble_eq_true rfl) ?_
    generalize Vl.rows [v, w] = rs at *
    simp only [go_sem, ↓reduceIte, Nat.reduceLT, Nat.reduceEqDiff, Nat.reduceAdd, Nat.reduceMul, Nat.reduceLeDiff, Nat.reduceBEq, Nat.reduceSub, Int.reduceLT, Int.reduceLE, Int.reduceEq, Int.reduceToNat, reduceCtorEq, Nat.lt_irrefl, Nat.le_refl, d123, c123]
    refine call0 (h59) (by rfl) (by rfl) (by rfl) (by rfl) ?_
    simp only [go_sem, ↓reduceIte, Nat.reduceLT, Nat.reduceEqDiff, Nat.reduceAdd, Nat.reduceMul, Nat.reduceLeDiff, Nat.reduceBEq, Nat.reduceSub, Int.reduceLT, Int.reduceLE, Int.reduceEq, Int.reduceToNat, reduceCtorEq, Nat.lt_irrefl, Nat.le_refl]
  have h118 : Ev E false 118 [v.t, w.t] [] (.tup [tI r, tI 0]) [] := by
    obtain ⟨k, n, p, l, rfl⟩ := vmk_at v
    obtain ⟨k', n', p', l', rfl⟩ := vmk_at w
    refine ev_of_wp (d := d118) rfl rfl (Nat.le_of_ble_eq_true rfl) ?_
    simp only [go_sem, ↓reduceIte, Nat.reduceLT, Nat.reduceEqDiff, Nat.reduceAdd, Nat.reduceMul, Nat.reduceLeDiff, Nat.reduceBEq, Nat.reduceSub, Int.reduceLT, Int.reduceLE, Int.reduceEq, Int.reduceToNat, reduceCtorEq, Nat.lt_irrefl, Nat.le_refl, d118, c118, Vl.t, Vl.row]
    refine call0 (h123) (by rfl) (by rfl) (by rfl) (by rfl) ?_
    simp only [go_sem, ↓reduceIte, Nat.reduceLT, Nat.reduceEqDiff, Nat.reduceAdd, Nat.reduceMul, Nat.reduceLeDiff, Nat.reduceBEq, Nat.reduceSub, Int.reduceLT, Int.reduceLE, Int.reduceEq, Int.reduceToNat, reduceCtorEq, Nat.lt_irrefl, Nat.le_refl]
    refine call0 (h) (by rfl) (by rfl) (by rfl) (by rfl) ?_
    simp only [go_sem, ↓reduceIte, Nat.reduceLT, Nat.reduceEqDiff, Nat.reduceAdd, Nat.reduceMul, Nat.reduceLeDiff, Nat.reduceBEq, Nat.reduceSub, Int.reduceLT, Int.reduceLE, Int.reduceEq, Int.reduceToNat, reduceCtorEq, Nat.lt_irrefl, Nat.le_refl]
  obtain ⟨k, n, p, l, rfl⟩ := vmk_at v
  obtain ⟨k', n', p', l', rfl⟩ := vmk_at w
  refine ev_of_wp (d := d99) rfl rfl (Nat.le_of_ble_eq_true rfl) ?_
  simp only [go_sem, ↓reduceIte, Nat.reduceLT, Nat.reduceEqDiff, Nat.reduceAdd, Nat.reduceMul, Nat.reduceLeDiff, Nat.reduceBEq, Nat.reduceSub, Int.reduceLT, Int.reduceLE, Int.reduceEq, Int.reduceToNat, reduceCtorEq, Nat.lt_irrefl, Nat.le_refl, d99, c99, Vl.t, Vl.row]
  refine call0 (h118) (by rfl) (by rfl) (by rfl) (by rfl) ?_
  simp only [go_sem, ↓reduceIte, Nat.reduceLT, Nat.reduceEqDiff, Nat.reduceAdd, Nat.reduceMul, Nat.reduceLeDiff, Nat.reduceBEq, Nat.reduceSub, Int.reduceLT, Int.reduceLE, Int.reduceEq, Int.reduceToNat, reduceCtorEq, Nat.lt_irrefl, Nat.le_refl]

end Go.Dev.CB

/- Whole numbers, and bounds, put in order. -/
namespace Go.Dev.CB
open Go Go.Dev Go.Dev.Wk
set_option maxRecDepth 100000

theorem cmp_self (a : Int) : cmpI a a = 0 := by simp [cmpI]
theorem fst0_3 (a b : Int) : fst0 [cmpI a a, b, 0] = b := by
  simp only [cmp_self, fst0, if_true]
  split <;> simp_all

theorem good_vi (n : Int) : Good1 (vi n) := ⟨fine_vi n, by simp [vi, Vl.size, Vl.sizes], by simp [vi, Vl.ht, Vl.hts]⟩

theorem f124_vi (a b : Int) : Ev E false 124 [(vi a).t, (vi b).t] [] (tI (cmpI a b)) [] := by
  have h := f124_of (ka := 2) (na := a) (kb := 2) (nb := b) (la := []) (lb := []) (r := 0) (fun _ => f132_e)
  rw [fst0_3] at h
  by_cases h0 : cmpI a b = 0
  · rw [if_pos h0] at h; rw [h0]; exact h
  · rw [if_neg h0] at h; exact h

theorem f99_vi (a b : Int) : Ev E false 99 [(vi a).t, (vi b).t] [] (tI (cmpI a b)) [] := f99_of (good_vi a) (good_vi b) (f124_vi a b)

def so (m : Int) : Vl := .mk 9 0 false [vi m]
theorem good_so (m : Int) : Good1 (so m) := ⟨.mk .some (fun v hv => by rw [List.mem_singleton.1 hv]; exact fine_vi m), by simp [so, vi, Vl.size, Vl.sizes], by simp [so, vi, Vl.ht, Vl.hts]⟩

theorem f124_so (a b : Int) : Ev E false 124 [(so a).t, (so b).t] [] (tI (cmpI a b)) [] := by
  have h124 := f124_vi a b
  have e : ∀ n, (vi n).t = .agg [.v (.s (.int .i64 2)), .v (.s (.int .i64 n)), .v (.s (.string ⟨#[]⟩)), .v (.s (.complex .f64 0 0)), .v (.sl [])] := fun n => rfl
  rw [e, e] at h124
  have h132 : Ev E false 132 [.one (.v (.sl (Vl.rows [vi a]))), .one (.v (.sl (Vl.rows [vi b]))), .one (.fn (.func 124) [] [])] [] (tI (cmpI a b)) [] := by
    generalize cmpI a b = r at *
    refine ev_of_wp (d := d132) rfl rfl (Nat.le_of_ble_eq_true rfl) ?_
    simp only [go_sem, ↓reduceIte, Nat.reduceLT, Nat.reduceEqDiff, Nat.reduceAdd, Nat.reduceMul, Nat.reduceLeDiff, Nat.reduceBEq, Nat.reduceSub, Int.reduceLT, Int.reduceLE, Int.reduceEq, Int.reduceToNat, reduceCtorEq, Nat.lt_irrefl, Nat.le_refl, d132, c132, Vl.rows, vi, Vl.row, pV]
    rw [Wk.wp_loop]
    simp only [go_sem, ↓reduceIte, Nat.reduceLT, Nat.reduceEqDiff, Nat.reduceAdd, Nat.reduceMul, Nat.reduceLeDiff, Nat.reduceBEq, Nat.reduceSub, Int.reduceLT, Int.reduceLE, Int.reduceEq, Int.reduceToNat, reduceCtorEq, Nat.lt_irrefl, Nat.le_refl, ncast1, d01]
    refine call0 (h124) (by rfl) (by rfl) (by rfl) (by rfl) ?_
    simp only [go_sem, ↓reduceIte, Nat.reduceLT, Nat.reduceEqDiff, Nat.reduceAdd, Nat.reduceMul, Nat.reduceLeDiff, Nat.reduceBEq, Nat.reduceSub, Int.reduceLT, Int.reduceLE, Int.reduceEq, Int.reduceToNat, reduceCtorEq, Nat.lt_irrefl, Nat.le_refl]
    by_cases hr : r = 0
    · subst hr
      simp only [go_sem, ↓reduceIte, Nat.reduceLT, Nat.reduceEqDiff, Nat.reduceAdd, Nat.reduceMul, Nat.reduceLeDiff, Nat.reduceBEq, Nat.reduceSub, Int.reduceLT, Int.reduceLE, Int.reduceEq, Int.reduceToNat, reduceCtorEq, Nat.lt_irrefl, Nat.le_refl]
      rw [Wk.wp_loop]
      simp only [go_sem, ↓reduceIte, Nat.reduceLT, Nat.reduceEqDiff, Nat.reduceAdd, Nat.reduceMul, Nat.reduceLeDiff, Nat.reduceBEq, Nat.reduceSub, Int.reduceLT, Int.reduceLE, Int.reduceEq, Int.reduceToNat, reduceCtorEq, Nat.lt_irrefl, Nat.le_refl, w01, d11]
    · simp only [go_sem, ↓reduceIte, Nat.reduceLT, Nat.reduceEqDiff, Nat.reduceAdd, Nat.reduceMul, Nat.reduceLeDiff, Nat.reduceBEq, Nat.reduceSub, Int.reduceLT, Int.reduceLE, Int.reduceEq, Int.reduceToNat, reduceCtorEq, Nat.lt_irrefl, Nat.le_refl, hr]
  have h := f124_of (ka := 9) (na := 0) (kb := 9) (nb := 0) (la := [vi a]) (lb := [vi b]) (r := cmpI a b) (fun _ => h132)
  rw [fst0_3, cmp_self, if_pos rfl] at h
  exact h

theorem f99_so (a b : Int) : Ev E false 99 [(so a).t, (so b).t] [] (tI (cmpI a b)) [] := f99_of (good_so a) (good_so b) (f124_so a b)

end Go.Dev.CB

/- The combiners of CombineInts: what stands for them, what they make of one value, how they join two. -/
namespace Go.Dev.CB
open Go Go.Dev Go.Dev.Wk
set_option maxRecDepth 100000

inductive Q where
  | count | sum | mean | min | max
  | both (a b : Q)

def Q.nm : Q → ByteArray
  | .count => ⟨#[99, 111, 117, 110, 116]⟩
  | .sum => ⟨#[115, 117, 109]⟩
  | .mean => ⟨#[109, 101, 97, 110]⟩
  | .min => ⟨#[109, 105, 110]⟩
  | .max => ⟨#[109, 97, 120]⟩
  | .both _ _ => ⟨#[98, 111, 116, 104]⟩
def Q.id : Q → Nat
  | .count => 0
  | .sum => 1
  | .mean => 2
  | .min => 4
  | .max => 5
  | .both _ _ => 9
theorem q_id (q : Q) : nid q.nm = q.id := by cases q <;> rfl
def Q.co : Q → Co
  | .both a b => .mk (Q.nm (.both a b)) 0 [a.co, b.co]
  | .count => .mk (Q.nm .count) 0 []
  | .sum => .mk (Q.nm .sum) 0 []
  | .mean => .mk (Q.nm .mean) 0 []
  | .min => .mk (Q.nm .min) 0 []
  | .max => .mk (Q.nm .max) 0 []

def Q.S : Q → Type
  | .count => Int
  | .sum => Int
  | .mean => Int × Int
  | .min => Option Int
  | .max => Option Int
  | .both a b => a.S × b.S

def p2 (a b : Vl) : Vl := .mk 6 0 false [a, b]
def noV : Vl := .mk 8 0 false []
def bd : Option Int → Vl
  | none => noV
  | some m => so m

def Q.vl : (q : Q) → q.S → Vl
  | .count, n => vi n
  | .sum, n => vi n
  | .mean, n => p2 (vi n.1) (vi n.2)
  | .min, n => bd n
  | .max, n => bd n
  | .both a b, n => p2 (a.vl n.1) (b.vl n.2)

def W (n : Int) : Int := IntKind.i64.wrap n

def Q.z : (q : Q) → q.S
  | .count => (0 : Int)
  | .sum => (0 : Int)
  | .mean => ((0 : Int), (0 : Int))
  | .min => (none : Option Int)
  | .max => (none : Option Int)
  | .both a b => (a.z, b.z)

def Q.one : (q : Q) → Int → q.S
  | .count, _ => (1 : Int)
  | .sum, n => n
  | .mean, n => (n, (1 : Int))
  | .min, n => some n
  | .max, n => some n
  | .both a b, n => (a.one n, b.one n)

def jb (mn : Bool) : Option Int → Option Int → Option Int
  | none, y => y
  | some x, none => some x
  | some x, some y => if (decide (cmpI y x < 0) == mn) = true then some y else some x

def Q.jn : (q : Q) → q.S → q.S → q.S
  | .count, x, y => W (Int.add x y)
  | .sum, x, y => W (Int.add x y)
  | .mean, x, y => (W (x.1 + y.1), W (x.2 + y.2))
  | .min, x, y => jb true x y
  | .max, x, y => jb false x y
  | .both a b, x, y => (a.jn x.1 y.1, b.jn x.2 y.2)

def Q.ex : (q : Q) → q.S → Vl
  | .count, n => vi n
  | .sum, n => vi n
  | .mean, n => if n.2 = 0 then vi 0 else vi (W (Int.tdiv n.1 n.2))
  | .min, n => bd n
  | .max, n => bd n
  | .both a b, n => p2 (a.ex n.1) (b.ex n.2)

/-! ### What stands for them -/

theorem vi_row (n : Int) : (vi n).row = [.s (.int .i64 2), .s (.int .i64 n), .s (.string ⟨#[]⟩), .s (.complex .f64 0 0), .sl []] := rfl

theorem f80_ok (q : Q) : ∀ n, Ev E false 80 [opT q.co num, (vi n).t] [] (q.vl (q.one n)).t [] := by
  induction q with
  | both a b iha ihb =>
    intro n
    have ia := iha n
    have ib := ihb n
    simp only [Q.co, Q.vl, Q.one]
    have h := q_id (.both a b)
    generalize Q.nm (.both a b) = nm at *
    simp only [Q.id] at h
    rw [opT, op_eq]
    generalize ((Co.tp (.mk nm 0 [a.co, b.co]) num).getD (num, num)).1 = A
    generalize ((Co.tp (.mk nm 0 [a.co, b.co]) num).getD (num, num)).2 = O
    obtain ⟨kA, lA, rfl⟩ := mk_at A
    obtain ⟨kO, lO, rfl⟩ := mk_at O
    rw [opT] at ia ib
    generalize a.vl (a.one n) = v1 at *
    generalize b.vl (b.one n) = v2 at *
    obtain ⟨k1, n1, q1, l1, rfl⟩ := vmk_at v1
    obtain ⟨k2, n2, q2, l2, rfl⟩ := vmk_at v2
    refine ev_of_wp (d := d80) rfl rfl (Nat.le_of_ble_eq_true rfl) ?_
    simp only [go_sem, ↓reduceIte, Nat.reduceLT, Nat.reduceEqDiff, Nat.reduceAdd, Nat.reduceMul, Nat.reduceLeDiff, Nat.reduceBEq, Nat.reduceSub, Int.reduceLT, Int.reduceLE, Int.reduceEq, Int.reduceToNat, reduceCtorEq, Nat.lt_irrefl, Nat.le_refl, d80, c80, opRow, Ty.row, num, Ty.rows, h, Co.ops, Vl.t, vi_row]
    refine call0 (ia) (by rfl) (by rfl) (by rfl) (by rfl) ?_
    simp only [go_sem, ↓reduceIte, Nat.reduceLT, Nat.reduceEqDiff, Nat.reduceAdd, Nat.reduceMul, Nat.reduceLeDiff, Nat.reduceBEq, Nat.reduceSub, Int.reduceLT, Int.reduceLE, Int.reduceEq, Int.reduceToNat, reduceCtorEq, Nat.lt_irrefl, Nat.le_refl, Vl.t, Vl.row]
    refine call0 (ib) (by rfl) (by rfl) (by rfl) (by rfl) ?_
    simp only [go_sem, ↓reduceIte, Nat.reduceLT, Nat.reduceEqDiff, Nat.reduceAdd, Nat.reduceMul, Nat.reduceLeDiff, Nat.reduceBEq, Nat.reduceSub, Int.reduceLT, Int.reduceLE, Int.reduceEq, Int.reduceToNat, reduceCtorEq, Nat.lt_irrefl, Nat.le_refl, p2, Vl.t, Vl.row, pV, Vl.rows]
  | count =>
    intro n
    have h := q_id .count
    simp only [Q.co, Q.vl, Q.one]
    generalize Q.nm .count = nm at *
    simp only [Q.id] at h
    rw [opT, op_eq]
    generalize ((Co.tp (.mk nm 0 []) num).getD (num, num)).1 = A
    generalize ((Co.tp (.mk nm 0 []) num).getD (num, num)).2 = O
    obtain ⟨kA, lA, rfl⟩ := mk_at A
    obtain ⟨kO, lO, rfl⟩ := mk_at O
    refine ev_of_wp (d := d80) rfl rfl (Nat.le_of_ble_eq_true rfl) ?_
    simp only [go_sem, ↓reduceIte, Nat.reduceLT, Nat.reduceEqDiff, Nat.reduceAdd, Nat.reduceMul, Nat.reduceLeDiff, Nat.reduceBEq, Nat.reduceSub, Int.reduceLT, Int.reduceLE, Int.reduceEq, Int.reduceToNat, reduceCtorEq, Nat.lt_irrefl, Nat.le_refl, d80, c80, opRow, Ty.row, num, Ty.rows, h, Vl.t, vi_row]
    refine call0 (f64_ok 1) (by rfl) (by rfl) (by rfl) (by rfl) ?_
    simp only [go_sem, ↓reduceIte, Nat.reduceLT, Nat.reduceEqDiff, Nat.reduceAdd, Nat.reduceMul, Nat.reduceLeDiff, Nat.reduceBEq, Nat.reduceSub, Int.reduceLT, Int.reduceLE, Int.reduceEq, Int.reduceToNat, reduceCtorEq, Nat.lt_irrefl, Nat.le_refl, Vl.t, vi_row]
  | sum =>
    intro n
    have h := q_id .sum
    simp only [Q.co, Q.vl, Q.one]
    generalize Q.nm .sum = nm at *
    simp only [Q.id] at h
    rw [opT, op_eq]
    generalize ((Co.tp (.mk nm 0 []) num).getD (num, num)).1 = A
    generalize ((Co.tp (.mk nm 0 []) num).getD (num, num)).2 = O
    obtain ⟨kA, lA, rfl⟩ := mk_at A
    obtain ⟨kO, lO, rfl⟩ := mk_at O
    refine ev_of_wp (d := d80) rfl rfl (Nat.le_of_ble_eq_true rfl) ?_
    simp only [go_sem, ↓reduceIte, Nat.reduceLT, Nat.reduceEqDiff, Nat.reduceAdd, Nat.reduceMul, Nat.reduceLeDiff, Nat.reduceBEq, Nat.reduceSub, Int.reduceLT, Int.reduceLE, Int.reduceEq, Int.reduceToNat, reduceCtorEq, Nat.lt_irrefl, Nat.le_refl, d80, c80, opRow, Ty.row, num, Ty.rows, h, Vl.t, vi_row]
  | mean =>
    intro n
    have h := q_id .mean
    simp only [Q.co, Q.vl, Q.one]
    generalize Q.nm .mean = nm at *
    simp only [Q.id] at h
    rw [opT, op_eq]
    generalize ((Co.tp (.mk nm 0 []) num).getD (num, num)).1 = A
    generalize ((Co.tp (.mk nm 0 []) num).getD (num, num)).2 = O
    obtain ⟨kA, lA, rfl⟩ := mk_at A
    obtain ⟨kO, lO, rfl⟩ := mk_at O
    refine ev_of_wp (d := d80) rfl rfl (Nat.le_of_ble_eq_true rfl) ?_
    simp only [go_sem, ↓reduceIte, Nat.reduceLT, Nat.reduceEqDiff, Nat.reduceAdd, Nat.reduceMul, Nat.reduceLeDiff, Nat.reduceBEq, Nat.reduceSub, Int.reduceLT, Int.reduceLE, Int.reduceEq, Int.reduceToNat, reduceCtorEq, Nat.lt_irrefl, Nat.le_refl, d80, c80, opRow, Ty.row, num, Ty.rows, h, Vl.t, vi_row]
    refine call0 (f64_ok 1) (by rfl) (by rfl) (by rfl) (by rfl) ?_
    simp only [go_sem, ↓reduceIte, Nat.reduceLT, Nat.reduceEqDiff, Nat.reduceAdd, Nat.reduceMul, Nat.reduceLeDiff, Nat.reduceBEq, Nat.reduceSub, Int.reduceLT, Int.reduceLE, Int.reduceEq, Int.reduceToNat, reduceCtorEq, Nat.lt_irrefl, Nat.le_refl, p2, Vl.t, Vl.row, pV, Vl.rows, vi_row]
  | min =>
    intro n
    have h := q_id .min
    have h96 := f96_ok (good_vi n)
    rw [show decide ((vi n).size ≤ 16) = true from rfl] at h96
    simp only [Q.co, Q.vl, Q.one]
    generalize Q.nm .min = nm at *
    simp only [Q.id] at h
    rw [opT, op_eq]
    generalize ((Co.tp (.mk nm 0 []) num).getD (num, num)).1 = A
    generalize ((Co.tp (.mk nm 0 []) num).getD (num, num)).2 = O
    obtain ⟨kA, lA, rfl⟩ := mk_at A
    obtain ⟨kO, lO, rfl⟩ := mk_at O
    refine ev_of_wp (d := d80) rfl rfl (Nat.le_of_ble_eq_true rfl) ?_
    simp only [go_sem, ↓reduceIte, Nat.reduceLT, Nat.reduceEqDiff, Nat.reduceAdd, Nat.reduceMul, Nat.reduceLeDiff, Nat.reduceBEq, Nat.reduceSub, Int.reduceLT, Int.reduceLE, Int.reduceEq, Int.reduceToNat, reduceCtorEq, Nat.lt_irrefl, Nat.le_refl, d80, c80, opRow, Ty.row, num, Ty.rows, h, Vl.t, vi_row]
    refine call0 (h96) (by rfl) (by rfl) (by rfl) (by rfl) ?_
    simp only [go_sem, ↓reduceIte, Nat.reduceLT, Nat.reduceEqDiff, Nat.reduceAdd, Nat.reduceMul, Nat.reduceLeDiff, Nat.reduceBEq, Nat.reduceSub, Int.reduceLT, Int.reduceLE, Int.reduceEq, Int.reduceToNat, reduceCtorEq, Nat.lt_irrefl, Nat.le_refl, h, bd, so, Vl.t, Vl.row, pV, Vl.rows, vi_row]
  | max =>
    intro n
    have h := q_id .max
    have h96 := f96_ok (good_vi n)
    rw [show decide ((vi n).size ≤ 16) = true from rfl] at h96
    simp only [Q.co, Q.vl, Q.one]
    generalize Q.nm .max = nm at *
    simp only [Q.id] at h
    rw [opT, op_eq]
    generalize ((Co.tp (.mk nm 0 []) num).getD (num, num)).1 = A
    generalize ((Co.tp (.mk nm 0 []) num).getD (num, num)).2 = O
    obtain ⟨kA, lA, rfl⟩ := mk_at A
    obtain ⟨kO, lO, rfl⟩ := mk_at O
    refine ev_of_wp (d := d80) rfl rfl (Nat.le_of_ble_eq_true rfl) ?_
    simp only [go_sem, ↓reduceIte, Nat.reduceLT, Nat.reduceEqDiff, Nat.reduceAdd, Nat.reduceMul, Nat.reduceLeDiff, Nat.reduceBEq, Nat.reduceSub, Int.reduceLT, Int.reduceLE, Int.reduceEq, Int.reduceToNat, reduceCtorEq, Nat.lt_irrefl, Nat.le_refl, d80, c80, opRow, Ty.row, num, Ty.rows, h, Vl.t, vi_row]
    refine call0 (h96) (by rfl) (by rfl) (by rfl) (by rfl) ?_
    simp only [go_sem, ↓reduceIte, Nat.reduceLT, Nat.reduceEqDiff, Nat.reduceAdd, Nat.reduceMul, Nat.reduceLeDiff, Nat.reduceBEq, Nat.reduceSub, Int.reduceLT, Int.reduceLE, Int.reduceEq, Int.reduceToNat, reduceCtorEq, Nat.lt_irrefl, Nat.le_refl, h, bd, so, Vl.t, Vl.row, pV, Vl.rows, vi_row]

/-! ### What joins them -/

theorem bq_ft : (false == true) = false := rfl
theorem bq_tf : (true == false) = false := rfl
theorem bq_tt : (true == true) = true := rfl
theorem bq_ff : (false == false) = true := rfl

theorem f79_bd (mn : Bool) (nm : ByteArray) (h : nid nm = if mn = true then 4 else 5) (A O : Ty) (x y : Option Int) : Ev E false 79 [.one (.v (.pt (opRow nm 16 num A O []))), (bd x).t, (bd y).t] [] (bd (jb mn x y)).t [] := by
  obtain ⟨kA, lA, rfl⟩ := mk_at A
  obtain ⟨kO, lO, rfl⟩ := mk_at O
  refine ev_of_wp (d := d79) rfl rfl (Nat.le_of_ble_eq_true rfl) ?_
  cases x with
  | none =>
    obtain ⟨k, n, p, l, e⟩ := vmk_at (bd y)
    cases mn with
    | true =>
      simp only [if_true] at h
      rw [show jb true none y = y from rfl, e]
      simp only [go_sem, ↓reduceIte, Nat.reduceLT, Nat.reduceEqDiff, Nat.reduceAdd, Nat.reduceMul, Nat.reduceLeDiff, Nat.reduceBEq, Nat.reduceSub, Int.reduceLT, Int.reduceLE, Int.reduceEq, Int.reduceToNat, reduceCtorEq, Nat.lt_irrefl, Nat.le_refl, d79, c79, opRow, Ty.row, num, Ty.rows, h, bd, noV, Vl.t, Vl.row]
    | false =>
      simp only [Bool.false_eq_true, if_false] at h
      rw [show jb false none y = y from rfl, e]
      simp only [go_sem, ↓reduceIte, Nat.reduceLT, Nat.reduceEqDiff, Nat.reduceAdd, Nat.reduceMul, Nat.reduceLeDiff, Nat.reduceBEq, Nat.reduceSub, Int.reduceLT, Int.reduceLE, Int.reduceEq, Int.reduceToNat, reduceCtorEq, Nat.lt_irrefl, Nat.le_refl, d79, c79, opRow, Ty.row, num, Ty.rows, h, bd, noV, Vl.t, Vl.row]
  | some a =>
    cases y with
    | none =>
      cases mn with
      | true =>
        simp only [if_true] at h
        simp only [go_sem, ↓reduceIte, Nat.reduceLT, Nat.reduceEqDiff, Nat.reduceAdd, Nat.reduceMul, Nat.reduceLeDiff, Nat.reduceBEq, Nat.reduceSub, Int.reduceLT, Int.reduceLE, Int.reduceEq, Int.reduceToNat, reduceCtorEq, Nat.lt_irrefl, Nat.le_refl, d79, c79, opRow, Ty.row, num, Ty.rows, h, bd, noV, so, Vl.t, Vl.row, jb]
      | false =>
        simp only [Bool.false_eq_true, if_false] at h
        simp only [go_sem, ↓reduceIte, Nat.reduceLT, Nat.reduceEqDiff, Nat.reduceAdd, Nat.reduceMul, Nat.reduceLeDiff, Nat.reduceBEq, Nat.reduceSub, Int.reduceLT, Int.reduceLE, Int.reduceEq, Int.reduceToNat, reduceCtorEq, Nat.lt_irrefl, Nat.le_refl, d79, c79, opRow, Ty.row, num, Ty.rows, h, bd, noV, so, Vl.t, Vl.row, jb]
    | some b =>
      have h99 := f99_so b a
      have hlt : ∀ x : Int, decide (x < 0) = decide (x < 0) := fun _ => rfl
      cases mn with
      | true =>
        simp only [if_true] at h
        simp only [bd, jb]
        generalize cmpI b a = r at *
        by_cases hr : r < 0
        · simp only [go_sem, ↓reduceIte, Nat.reduceLT, Nat.reduceEqDiff, Nat.reduceAdd, Nat.reduceMul, Nat.reduceLeDiff, Nat.reduceBEq, Nat.reduceSub, Int.reduceLT, Int.reduceLE, Int.reduceEq, Int.reduceToNat, reduceCtorEq, Nat.lt_irrefl, Nat.le_refl, d79, c79, opRow, Ty.row, num, Ty.rows, h, so, Vl.t, Vl.row, jb]
          refine call0 (h99) (by rfl) (by rfl) (by rfl) (by rfl) ?_
          simp only [go_sem, ↓reduceIte, Nat.reduceLT, Nat.reduceEqDiff, Nat.reduceAdd, Nat.reduceMul, Nat.reduceLeDiff, Nat.reduceBEq, Nat.reduceSub, Int.reduceLT, Int.reduceLE, Int.reduceEq, Int.reduceToNat, reduceCtorEq, Nat.lt_irrefl, Nat.le_refl, h, hr, so, Vl.t, Vl.row, bq_ft, bq_tf, bq_tt, bq_ff]
        · simp only [go_sem, ↓reduceIte, Nat.reduceLT, Nat.reduceEqDiff, Nat.reduceAdd, Nat.reduceMul, Nat.reduceLeDiff, Nat.reduceBEq, Nat.reduceSub, Int.reduceLT, Int.reduceLE, Int.reduceEq, Int.reduceToNat, reduceCtorEq, Nat.lt_irrefl, Nat.le_refl, d79, c79, opRow, Ty.row, num, Ty.rows, h, so, Vl.t, Vl.row, jb]
          refine call0 (h99) (by rfl) (by rfl) (by rfl) (by rfl) ?_
          simp only [go_sem, ↓reduceIte, Nat.reduceLT, Nat.reduceEqDiff, Nat.reduceAdd, Nat.reduceMul, Nat.reduceLeDiff, Nat.reduceBEq, Nat.reduceSub, Int.reduceLT, Int.reduceLE, Int.reduceEq, Int.reduceToNat, reduceCtorEq, Nat.lt_irrefl, Nat.le_refl, h, hr, so, Vl.t, Vl.row, bq_ft, bq_tf, bq_tt, bq_ff]
      | false =>
        simp only [Bool.false_eq_true, if_false] at h
        simp only [bd, jb]
        generalize cmpI b a = r at *
        by_cases hr : r < 0
        · simp only [go_sem, ↓reduceIte, Nat.reduceLT, Nat.reduceEqDiff, Nat.reduceAdd, Nat.reduceMul, Nat.reduceLeDiff, Nat.reduceBEq, Nat.reduceSub, Int.reduceLT, Int.reduceLE, Int.reduceEq, Int.reduceToNat, reduceCtorEq, Nat.lt_irrefl, Nat.le_refl, d79, c79, opRow, Ty.row, num, Ty.rows, h, so, Vl.t, Vl.row, jb]
          refine call0 (h99) (by rfl) (by rfl) (by rfl) (by rfl) ?_
          simp only [go_sem, ↓reduceIte, Nat.reduceLT, Nat.reduceEqDiff, Nat.reduceAdd, Nat.reduceMul, Nat.reduceLeDiff, Nat.reduceBEq, Nat.reduceSub, Int.reduceLT, Int.reduceLE, Int.reduceEq, Int.reduceToNat, reduceCtorEq, Nat.lt_irrefl, Nat.le_refl, h, hr, so, Vl.t, Vl.row, bq_ft, bq_tf, bq_tt, bq_ff]
        · simp only [go_sem, ↓reduceIte, Nat.reduceLT, Nat.reduceEqDiff, Nat.reduceAdd, Nat.reduceMul, Nat.reduceLeDiff, Nat.reduceBEq, Nat.reduceSub, Int.reduceLT, Int.reduceLE, Int.reduceEq, Int.reduceToNat, reduceCtorEq, Nat.lt_irrefl, Nat.le_refl, d79, c79, opRow, Ty.row, num, Ty.rows, h, so, Vl.t, Vl.row, jb]
          refine call0 (h99) (by rfl) (by rfl) (by rfl) (by rfl) ?_
          simp only [go_sem, ↓reduceIte, Nat.reduceLT, Nat.reduceEqDiff, Nat.reduceAdd, Nat.reduceMul, Nat.reduceLeDiff, Nat.reduceBEq, Nat.reduceSub, Int.reduceLT, Int.reduceLE, Int.reduceEq, Int.reduceToNat, reduceCtorEq, Nat.lt_irrefl, Nat.le_refl, h, hr, so, Vl.t, Vl.row, bq_ft, bq_tf, bq_tt, bq_ff]

theorem f79_num (nm : ByteArray) (h : nid nm = 0 ∨ nid nm = 1) (A O : Ty) (x y : Int) : Ev E false 79 [.one (.v (.pt (opRow nm 16 num A O []))), (vi x).t, (vi y).t] [] (vi (W (x + y))).t [] := by
  obtain ⟨kA, lA, rfl⟩ := mk_at A
  obtain ⟨kO, lO, rfl⟩ := mk_at O
  refine ev_of_wp (d := d79) rfl rfl (Nat.le_of_ble_eq_true rfl) ?_
  rcases h with h | h
  · simp only [go_sem, ↓reduceIte, Nat.reduceLT, Nat.reduceEqDiff, Nat.reduceAdd, Nat.reduceMul, Nat.reduceLeDiff, Nat.reduceBEq, Nat.reduceSub, Int.reduceLT, Int.reduceLE, Int.reduceEq, Int.reduceToNat, reduceCtorEq, Nat.lt_irrefl, Nat.le_refl, d79, c79, opRow, Ty.row, num, Ty.rows, h, Vl.t, vi_row]
    refine call0 (f64_ok _) (by rfl) (by rfl) (by rfl) (by rfl) ?_
    simp only [go_sem, ↓reduceIte, Nat.reduceLT, Nat.reduceEqDiff, Nat.reduceAdd, Nat.reduceMul, Nat.reduceLeDiff, Nat.reduceBEq, Nat.reduceSub, Int.reduceLT, Int.reduceLE, Int.reduceEq, Int.reduceToNat, reduceCtorEq, Nat.lt_irrefl, Nat.le_refl, Vl.t, vi_row, W]
  · simp only [go_sem, ↓reduceIte, Nat.reduceLT, Nat.reduceEqDiff, Nat.reduceAdd, Nat.reduceMul, Nat.reduceLeDiff, Nat.reduceBEq, Nat.reduceSub, Int.reduceLT, Int.reduceLE, Int.reduceEq, Int.reduceToNat, reduceCtorEq, Nat.lt_irrefl, Nat.le_refl, d79, c79, opRow, Ty.row, num, Ty.rows, h, Vl.t, vi_row]
    refine call0 (f64_ok _) (by rfl) (by rfl) (by rfl) (by rfl) ?_
    simp only [go_sem, ↓reduceIte, Nat.reduceLT, Nat.reduceEqDiff, Nat.reduceAdd, Nat.reduceMul, Nat.reduceLeDiff, Nat.reduceBEq, Nat.reduceSub, Int.reduceLT, Int.reduceLE, Int.reduceEq, Int.reduceToNat, reduceCtorEq, Nat.lt_irrefl, Nat.le_refl, Vl.t, vi_row, W]

theorem f79_ok (q : Q) : ∀ x y : q.S, Ev E false 79 [opT q.co num, (q.vl x).t, (q.vl y).t] [] (q.vl (q.jn x y)).t [] := by
  induction q with
  | both a b iha ihb =>
    intro x y
    have ia := iha x.1 y.1
    have ib := ihb x.2 y.2
    simp only [Q.co, Q.vl, Q.jn]
    have h := q_id (.both a b)
    generalize Q.nm (.both a b) = nm at *
    simp only [Q.id] at h
    rw [opT, op_eq]
    generalize ((Co.tp (.mk nm 0 [a.co, b.co]) num).getD (num, num)).1 = A
    generalize ((Co.tp (.mk nm 0 [a.co, b.co]) num).getD (num, num)).2 = O
    obtain ⟨kA, lA, rfl⟩ := mk_at A
    obtain ⟨kO, lO, rfl⟩ := mk_at O
    rw [opT] at ia ib
    generalize a.vl (a.jn x.1 y.1) = v1 at *
    generalize b.vl (b.jn x.2 y.2) = v2 at *
    generalize a.vl x.1 = w1 at *
    generalize b.vl x.2 = w2 at *
    generalize a.vl y.1 = u1 at *
    generalize b.vl y.2 = u2 at *
    obtain ⟨k1, n1, q1, l1, rfl⟩ := vmk_at v1
    obtain ⟨k2, n2, q2, l2, rfl⟩ := vmk_at v2
    obtain ⟨k3, n3, q3, l3, rfl⟩ := vmk_at w1
    obtain ⟨k4, n4, q4, l4, rfl⟩ := vmk_at w2
    obtain ⟨k5, n5, q5, l5, rfl⟩ := vmk_at u1
    obtain ⟨k6, n6, q6, l6, rfl⟩ := vmk_at u2
    refine ev_of_wp (d := d79) rfl rfl (Nat.le_of_ble_eq_true rfl) ?_
    simp only [go_sem, ↓reduceIte, Nat.reduceLT, Nat.reduceEqDiff, Nat.reduceAdd, Nat.reduceMul, Nat.reduceLeDiff, Nat.reduceBEq, Nat.reduceSub, Int.reduceLT, Int.reduceLE, Int.reduceEq, Int.reduceToNat, reduceCtorEq, Nat.lt_irrefl, Nat.le_refl, d79, c79, opRow, Ty.row, num, Ty.rows, h, Co.ops, p2, Vl.t, Vl.row, Vl.rows]
    refine call0 (ia) (by rfl) (by rfl) (by rfl) (by rfl) ?_
    simp only [go_sem, ↓reduceIte, Nat.reduceLT, Nat.reduceEqDiff, Nat.reduceAdd, Nat.reduceMul, Nat.reduceLeDiff, Nat.reduceBEq, Nat.reduceSub, Int.reduceLT, Int.reduceLE, Int.reduceEq, Int.reduceToNat, reduceCtorEq, Nat.lt_irrefl, Nat.le_refl, Vl.t, Vl.row]
    refine call0 (ib) (by rfl) (by rfl) (by rfl) (by rfl) ?_
    simp only [go_sem, ↓reduceIte, Nat.reduceLT, Nat.reduceEqDiff, Nat.reduceAdd, Nat.reduceMul, Nat.reduceLeDiff, Nat.reduceBEq, Nat.reduceSub, Int.reduceLT, Int.reduceLE, Int.reduceEq, Int.reduceToNat, reduceCtorEq, Nat.lt_irrefl, Nat.le_refl, Vl.t, Vl.row, pV, Vl.rows]
  | count => intro x y; exact f79_num _ (.inl (q_id .count)) _ _ x y
  | sum => intro x y; exact f79_num _ (.inr (q_id .sum)) _ _ x y
  | mean =>
    intro x y
    have h := q_id .mean
    simp only [Q.co, Q.vl, Q.jn]
    generalize Q.nm .mean = nm at *
    simp only [Q.id] at h
    rw [opT, op_eq]
    generalize ((Co.tp (.mk nm 0 []) num).getD (num, num)).1 = A
    generalize ((Co.tp (.mk nm 0 []) num).getD (num, num)).2 = O
    obtain ⟨kA, lA, rfl⟩ := mk_at A
    obtain ⟨kO, lO, rfl⟩ := mk_at O
    refine ev_of_wp (d := d79) rfl rfl (Nat.le_of_ble_eq_true rfl) ?_
    simp only [go_sem, ↓reduceIte, Nat.reduceLT, Nat.reduceEqDiff, Nat.reduceAdd, Nat.reduceMul, Nat.reduceLeDiff, Nat.reduceBEq, Nat.reduceSub, Int.reduceLT, Int.reduceLE, Int.reduceEq, Int.reduceToNat, reduceCtorEq, Nat.lt_irrefl, Nat.le_refl, d79, c79, opRow, Ty.row, num, Ty.rows, h, Vl.t, p2, Vl.row, Vl.rows, vi_row]
    refine call0 (f64_ok _) (by rfl) (by rfl) (by rfl) (by rfl) ?_
    simp only [go_sem, ↓reduceIte, Nat.reduceLT, Nat.reduceEqDiff, Nat.reduceAdd, Nat.reduceMul, Nat.reduceLeDiff, Nat.reduceBEq, Nat.reduceSub, Int.reduceLT, Int.reduceLE, Int.reduceEq, Int.reduceToNat, reduceCtorEq, Nat.lt_irrefl, Nat.le_refl, Vl.t, vi_row, W]
    refine call0 (f64_ok _) (by rfl) (by rfl) (by rfl) (by rfl) ?_
    simp only [go_sem, ↓reduceIte, Nat.reduceLT, Nat.reduceEqDiff, Nat.reduceAdd, Nat.reduceMul, Nat.reduceLeDiff, Nat.reduceBEq, Nat.reduceSub, Int.reduceLT, Int.reduceLE, Int.reduceEq, Int.reduceToNat, reduceCtorEq, Nat.lt_irrefl, Nat.le_refl, Vl.t, vi_row, W, Vl.row, Vl.rows, pV]
  | min =>
    intro x y
    exact f79_bd true _ (q_id .min) _ _ x y
  | max =>
    intro x y
    exact f79_bd false _ (q_id .max) _ _ x y

end Go.Dev.CB

/- What stands for the combiners of CombineInts is right; what is taken out. -/
namespace Go.Dev.CB
open Go Go.Dev Go.Dev.Wk
set_option maxRecDepth 100000

def Q.sz : Q → Nat
  | .both a b => 1 + a.sz + b.sz
  | _ => 3
def Q.h : Q → Nat
  | .both a b => 1 + (if a.h ≤ b.h then b.h else a.h)
  | _ => 2

theorem bd_fine (x : Option Int) : Fine (bd x) := by
  cases x with
  | none => exact fine_leaf .no
  | some m => exact (good_so m).1
theorem q_fine (q : Q) : ∀ s, Fine (q.vl s) := by
  induction q with
  | both a b iha ihb => exact fun s => fine_two (iha _) (ihb _)
  | count => exact fun s => fine_vi s
  | sum => exact fun s => fine_vi s
  | mean => exact fun s => fine_two (fine_vi _) (fine_vi _)
  | min => exact fun s => bd_fine s
  | max => exact fun s => bd_fine s
theorem bd_size (x : Option Int) : (bd x).size ≤ 3 ∧ (bd x).ht ≤ 2 := by
  cases x with
  | none => exact ⟨by simp [bd, noV, Vl.size, Vl.sizes], by simp [bd, noV, Vl.ht, Vl.hts]⟩
  | some m => exact ⟨by simp [bd, so, vi, Vl.size, Vl.sizes], by simp [bd, so, vi, Vl.ht, Vl.hts]⟩
theorem q_size (q : Q) : ∀ s, (q.vl s).size ≤ q.sz ∧ (q.vl s).ht ≤ q.h := by
  induction q with
  | both a b iha ihb =>
    intro s
    have h1 := iha s.1
    have h2 := ihb s.2
    constructor
    · show 1 + ((a.vl s.1).size + ((b.vl s.2).size + 0)) ≤ 1 + a.sz + b.sz
      omega
    · show 1 + (if (a.vl s.1).ht ≤ (if (b.vl s.2).ht ≤ 0 then 0 else (b.vl s.2).ht) then (if (b.vl s.2).ht ≤ 0 then 0 else (b.vl s.2).ht) else (a.vl s.1).ht) ≤ 1 + (if a.h ≤ b.h then b.h else a.h)
      by_cases q1 : (b.vl s.2).ht ≤ 0 <;> simp only [q1, if_true, if_false] <;> split <;> split <;> omega
  | count => exact fun s => ⟨by simp [Q.vl, vi, Vl.size, Vl.sizes, Q.sz], by simp [Q.vl, vi, Vl.ht, Vl.hts, Q.h]⟩
  | sum => exact fun s => ⟨by simp [Q.vl, vi, Vl.size, Vl.sizes, Q.sz], by simp [Q.vl, vi, Vl.ht, Vl.hts, Q.h]⟩
  | mean => exact fun s => ⟨by simp [Q.vl, p2, vi, Vl.size, Vl.sizes, Q.sz], by simp [Q.vl, p2, vi, Vl.ht, Vl.hts, Q.h]⟩
  | min => exact fun s => bd_size s
  | max => exact fun s => bd_size s

theorem fit_bd (x : Option Int) : Fit (.mk 9 [num]) (bd x) := by
  cases x with
  | none => exact .no _ 0 false
  | some m => exact .same 9 0 false [num] [vi m] (fun _ => num) (fun i hi => by simp at hi; subst hi; rfl) (fun i hi => by simp at hi; subst hi; exact fit_leaf 2 m false [])

theorem q_tp_both {a b : Q} {A O : Ty} (h : (Q.both a b).co.tp num = some (A, O)) : ∃ a1 o1 a2 o2, a.co.tp num = some (a1, o1) ∧ b.co.tp num = some (a2, o2) ∧ A = pr a1 a2 ∧ O = pr o1 o2 := by
  simp only [Q.co] at h
  rw [tp_eq, if_pos (show nid (Q.nm (.both a b)) = 9 from q_id (.both a b))] at h
  have := chk_raw h
  simp only [Co.tps, two] at this
  split at this
  · rename_i a1 o1 a2 o2 e1
    simp only [List.cons.injEq, and_true] at e1
    simp only [Option.some.injEq, Prod.mk.injEq] at this
    exact ⟨_, _, _, _, e1.1, e1.2, this.1.symm, this.2.symm⟩
  · cases this

theorem q_fit (q : Q) : ∀ (s : q.S) (a o : Ty), q.co.tp num = some (a, o) → Fit a (q.vl s) := by
  induction q with
  | both x y iha ihb =>
    intro s a o h
    obtain ⟨a1, o1, a2, o2, h1, h2, rfl, rfl⟩ := q_tp_both h
    exact fit_two (iha _ _ _ h1) (ihb _ _ _ h2) 0 false
  | count => intro s a o h; have e : ((Q.co .count).tp num).getD (num, num) = (num, ((Q.co .count).tp num).getD (num, num) |>.2) := rfl; rw [h] at e; obtain rfl : a = num := congrArg Prod.fst e; exact fit_leaf 2 s false []
  | sum => intro s a o h; have e : ((Q.co .sum).tp num).getD (num, num) = (num, ((Q.co .sum).tp num).getD (num, num) |>.2) := rfl; rw [h] at e; obtain rfl : a = num := congrArg Prod.fst e; exact fit_leaf 2 s false []
  | mean => intro s a o h; have e : ((Q.co .mean).tp num).getD (num, num) = (pr num num, ((Q.co .mean).tp num).getD (num, num) |>.2) := rfl; rw [h] at e; obtain rfl : a = pr num num := congrArg Prod.fst e; exact fit_two (fit_leaf 2 _ false []) (fit_leaf 2 _ false []) 0 false
  | min => intro s a o h; have e : ((Q.co .min).tp num).getD (num, num) = (.mk 9 [num], ((Q.co .min).tp num).getD (num, num) |>.2) := rfl; rw [h] at e; obtain rfl : a = .mk 9 [num] := congrArg Prod.fst e; exact fit_bd s
  | max => intro s a o h; have e : ((Q.co .max).tp num).getD (num, num) = (.mk 9 [num], ((Q.co .max).tp num).getD (num, num) |>.2) := rfl; rw [h] at e; obtain rfl : a = .mk 9 [num] := congrArg Prod.fst e; exact fit_bd s

end Go.Dev.CB

/- Right, and what is taken out. -/
namespace Go.Dev.CB
open Go Go.Dev Go.Dev.Wk
set_option maxRecDepth 100000

/-- What has a combiner's types, spelt out. -/
theorem opT_eq {nm : ByteArray} {ps : List Co} {a o : Ty} (h : (Co.mk nm 0 ps).tp num = some (a, o)) (h8 : ¬ nid nm = 8) : opT (.mk nm 0 ps) num = .one (.v (.pt (opRow nm 16 num a o (Co.ops ps num)))) := by
  rw [opT, op_eq, h, if_neg h8]; rfl

/-- The first question: what stands has the type. -/
theorem has_ok {a : Ty} {v : Vl} (hok : a.ok 6 = true) (hv : Good1 v) (hf : Fit a v) : Ev E false 33 [a.t, .one (.v (.sl [v.row]))] [] (tB true) [] :=
  f33_ok (vs := [v]) hok (by simp) (fun w hw => by rw [List.mem_singleton.1 hw]; exact ⟨hv, hf⟩)

theorem f78_plain {nm : ByteArray} (hn : nid nm = 0 ∨ nid nm = 1 ∨ nid nm = 2) {a o : Ty} {v : Vl} (h33 : Ev E false 33 [a.t, .one (.v (.sl [v.row]))] [] (tB true) []) : Ev E false 78 [.one (.v (.pt (opRow nm 16 num a o []))), v.t] [] (tB true) [] := by
  obtain ⟨k, n, p, l, rfl⟩ := vmk_at v
  obtain ⟨kA, lA, rfl⟩ := mk_at a
  obtain ⟨kO, lO, rfl⟩ := mk_at o
  simp only [Vl.row] at h33
  refine ev_of_wp (d := d78) rfl rfl (Nat.le_of_ble_eq_true rfl) ?_
  rcases hn with h | h | h
  all_goals
    simp only [go_sem, ↓reduceIte, Nat.reduceLT, Nat.reduceEqDiff, Nat.reduceAdd, Nat.reduceMul, Nat.reduceLeDiff, Nat.reduceBEq, Nat.reduceSub, Int.reduceLT, Int.reduceLE, Int.reduceEq, Int.reduceToNat, reduceCtorEq, Nat.lt_irrefl, Nat.le_refl, d78, c78, opRow, Ty.row, num, Ty.rows, h, Vl.t, Vl.row]
    refine call0 (h33) (by rfl) (by rfl) (by rfl) (by rfl) ?_
    simp only [go_sem, ↓reduceIte, Nat.reduceLT, Nat.reduceEqDiff, Nat.reduceAdd, Nat.reduceMul, Nat.reduceLeDiff, Nat.reduceBEq, Nat.reduceSub, Int.reduceLT, Int.reduceLE, Int.reduceEq, Int.reduceToNat, reduceCtorEq, Nat.lt_irrefl, Nat.le_refl, h]

theorem f78_bd {nm : ByteArray} (hn : nid nm = 4 ∨ nid nm = 5) {a o : Ty} {x : Option Int} (h33 : Ev E false 33 [a.t, .one (.v (.sl [(bd x).row]))] [] (tB true) []) : Ev E false 78 [.one (.v (.pt (opRow nm 16 num a o []))), (bd x).t] [] (tB true) [] := by
  obtain ⟨kA, lA, rfl⟩ := mk_at a
  obtain ⟨kO, lO, rfl⟩ := mk_at o
  cases x with
  | none =>
    simp only [bd, noV, Vl.row] at h33
    refine ev_of_wp (d := d78) rfl rfl (Nat.le_of_ble_eq_true rfl) ?_
    rcases hn with h | h
    all_goals
      simp only [go_sem, ↓reduceIte, Nat.reduceLT, Nat.reduceEqDiff, Nat.reduceAdd, Nat.reduceMul, Nat.reduceLeDiff, Nat.reduceBEq, Nat.reduceSub, Int.reduceLT, Int.reduceLE, Int.reduceEq, Int.reduceToNat, reduceCtorEq, Nat.lt_irrefl, Nat.le_refl, d78, c78, opRow, Ty.row, num, Ty.rows, h, Vl.t, bd, noV, Vl.row]
      refine call0 (h33) (by rfl) (by rfl) (by rfl) (by rfl) ?_
      simp only [go_sem, ↓reduceIte, Nat.reduceLT, Nat.reduceEqDiff, Nat.reduceAdd, Nat.reduceMul, Nat.reduceLeDiff, Nat.reduceBEq, Nat.reduceSub, Int.reduceLT, Int.reduceLE, Int.reduceEq, Int.reduceToNat, reduceCtorEq, Nat.lt_irrefl, Nat.le_refl, h]
  | some m =>
    simp only [bd, so, Vl.row] at h33
    have h96 := f96_ok (good_vi m)
    rw [show decide ((vi m).size ≤ 16) = true from rfl] at h96
    refine ev_of_wp (d := d78) rfl rfl (Nat.le_of_ble_eq_true rfl) ?_
    rcases hn with h | h
    all_goals
      simp only [go_sem, ↓reduceIte, Nat.reduceLT, Nat.reduceEqDiff, Nat.reduceAdd, Nat.reduceMul, Nat.reduceLeDiff, Nat.reduceBEq, Nat.reduceSub, Int.reduceLT, Int.reduceLE, Int.reduceEq, Int.reduceToNat, reduceCtorEq, Nat.lt_irrefl, Nat.le_refl, d78, c78, opRow, Ty.row, num, Ty.rows, h, Vl.t, bd, so, Vl.row]
      refine call0 (h33) (by rfl) (by rfl) (by rfl) (by rfl) ?_
      simp only [go_sem, ↓reduceIte, Nat.reduceLT, Nat.reduceEqDiff, Nat.reduceAdd, Nat.reduceMul, Nat.reduceLeDiff, Nat.reduceBEq, Nat.reduceSub, Int.reduceLT, Int.reduceLE, Int.reduceEq, Int.reduceToNat, reduceCtorEq, Nat.lt_irrefl, Nat.le_refl, h, Vl.rows, vi_row]
      refine call0 (h96) (by rfl) (by rfl) (by rfl) (by rfl) ?_
      simp only [go_sem, ↓reduceIte, Nat.reduceLT, Nat.reduceEqDiff, Nat.reduceAdd, Nat.reduceMul, Nat.reduceLeDiff, Nat.reduceBEq, Nat.reduceSub, Int.reduceLT, Int.reduceLE, Int.reduceEq, Int.reduceToNat, reduceCtorEq, Nat.lt_irrefl, Nat.le_refl, h]

theorem f78_ok (q : Q) : ∀ (s : q.S) (a o : Ty), q.co.tp num = some (a, o) → q.sz ≤ 2000 → q.h ≤ 8 → Ev E false 78 [opT q.co num, (q.vl s).t] [] (tB true) [] := by
  induction q with
  | both x y iha ihb =>
    intro s a o h hs hh
    have g : Good1 ((Q.both x y).vl s) := ⟨q_fine _ s, Nat.le_trans (q_size _ s).1 hs, Nat.le_trans (q_size _ s).2 hh⟩
    have h33 := has_ok (tp_ok h).1 g (q_fit _ s a o h)
    have hn := q_id (.both x y)
    obtain ⟨a1, o1, a2, o2, h1, h2, rfl, rfl⟩ := q_tp_both h
    simp only [Q.sz, Q.h] at hs hh
    have ia := iha s.1 _ _ h1 (by omega) (by split at hh <;> omega)
    have ib := ihb s.2 _ _ h2 (by omega) (by split at hh <;> omega)
    simp only [Q.co, Q.vl, p2] at h h33 ⊢
    simp only [Q.id] at hn
    rw [opT_eq h (by omega)]
    generalize Q.nm (.both x y) = nm at *
    rw [opT] at ia ib
    generalize x.vl s.1 = v1 at *
    generalize y.vl s.2 = v2 at *
    obtain ⟨k1, n1, q1, l1, rfl⟩ := vmk_at v1
    obtain ⟨k2, n2, q2, l2, rfl⟩ := vmk_at v2
    refine ev_of_wp (d := d78) rfl rfl (Nat.le_of_ble_eq_true rfl) ?_
    simp only [go_sem, ↓reduceIte, Nat.reduceLT, Nat.reduceEqDiff, Nat.reduceAdd, Nat.reduceMul, Nat.reduceLeDiff, Nat.reduceBEq, Nat.reduceSub, Int.reduceLT, Int.reduceLE, Int.reduceEq, Int.reduceToNat, reduceCtorEq, Nat.lt_irrefl, Nat.le_refl, d78, c78, opRow, pr, Ty.row, num, Ty.rows, hn, Vl.t, Vl.row, Vl.rows, Co.ops]
    refine call0 (h33) (by rfl) (by rfl) (by rfl) (by rfl) ?_
    simp only [go_sem, ↓reduceIte, Nat.reduceLT, Nat.reduceEqDiff, Nat.reduceAdd, Nat.reduceMul, Nat.reduceLeDiff, Nat.reduceBEq, Nat.reduceSub, Int.reduceLT, Int.reduceLE, Int.reduceEq, Int.reduceToNat, reduceCtorEq, Nat.lt_irrefl, Nat.le_refl, hn]
    refine call0 (ia) (by rfl) (by rfl) (by rfl) (by rfl) ?_
    simp only [go_sem, ↓reduceIte, Nat.reduceLT, Nat.reduceEqDiff, Nat.reduceAdd, Nat.reduceMul, Nat.reduceLeDiff, Nat.reduceBEq, Nat.reduceSub, Int.reduceLT, Int.reduceLE, Int.reduceEq, Int.reduceToNat, reduceCtorEq, Nat.lt_irrefl, Nat.le_refl, Vl.t, Vl.row]
    refine call0 (ib) (by rfl) (by rfl) (by rfl) (by rfl) ?_
    simp only [go_sem, ↓reduceIte, Nat.reduceLT, Nat.reduceEqDiff, Nat.reduceAdd, Nat.reduceMul, Nat.reduceLeDiff, Nat.reduceBEq, Nat.reduceSub, Int.reduceLT, Int.reduceLE, Int.reduceEq, Int.reduceToNat, reduceCtorEq, Nat.lt_irrefl, Nat.le_refl]
  | count =>
    intro s a o h hs hh
    have g : Good1 ((Q.count).vl s) := ⟨q_fine _ s, Nat.le_trans (q_size _ s).1 hs, Nat.le_trans (q_size _ s).2 hh⟩
    have h33 := has_ok (tp_ok h).1 g (q_fit _ s a o h)
    have hn := q_id .count
    simp only [Q.co] at h ⊢
    rw [opT_eq h (by rw [hn]; decide)]
    exact f78_plain (nm := Q.nm .count) (by rw [hn]; simp [Q.id]) h33
  | sum =>
    intro s a o h hs hh
    have g : Good1 ((Q.sum).vl s) := ⟨q_fine _ s, Nat.le_trans (q_size _ s).1 hs, Nat.le_trans (q_size _ s).2 hh⟩
    have h33 := has_ok (tp_ok h).1 g (q_fit _ s a o h)
    have hn := q_id .sum
    simp only [Q.co] at h ⊢
    rw [opT_eq h (by rw [hn]; decide)]
    exact f78_plain (nm := Q.nm .sum) (by rw [hn]; simp [Q.id]) h33
  | mean =>
    intro s a o h hs hh
    have g : Good1 ((Q.mean).vl s) := ⟨q_fine _ s, Nat.le_trans (q_size _ s).1 hs, Nat.le_trans (q_size _ s).2 hh⟩
    have h33 := has_ok (tp_ok h).1 g (q_fit _ s a o h)
    have hn := q_id .mean
    simp only [Q.co] at h ⊢
    rw [opT_eq h (by rw [hn]; decide)]
    exact f78_plain (nm := Q.nm .mean) (by rw [hn]; simp [Q.id]) h33
  | min =>
    intro s a o h hs hh
    have g : Good1 ((Q.min).vl s) := ⟨q_fine _ s, Nat.le_trans (q_size _ s).1 hs, Nat.le_trans (q_size _ s).2 hh⟩
    have h33 := has_ok (tp_ok h).1 g (q_fit _ s a o h)
    have hn := q_id .min
    simp only [Q.co] at h ⊢
    rw [opT_eq h (by rw [hn]; decide)]
    exact f78_bd (nm := Q.nm .min) (by rw [hn]; simp [Q.id]) h33
  | max =>
    intro s a o h hs hh
    have g : Good1 ((Q.max).vl s) := ⟨q_fine _ s, Nat.le_trans (q_size _ s).1 hs, Nat.le_trans (q_size _ s).2 hh⟩
    have h33 := has_ok (tp_ok h).1 g (q_fit _ s a o h)
    have hn := q_id .max
    simp only [Q.co] at h ⊢
    rw [opT_eq h (by rw [hn]; decide)]
    exact f78_bd (nm := Q.nm .max) (by rw [hn]; simp [Q.id]) h33

/-! ### What is taken out -/

theorem bin_quo {a b : Int} (h : ¬ b = 0) : bin .quo (.one (.v (.s (.int .i64 a)))) (.one (.v (.s (.int .i64 b)))) = some (.one (.v (.s (.int .i64 (IntKind.i64.wrap (Int.tdiv a b)))))) := by
  simp [bin, scal, Op.intDiv, pureOf, h]; rfl

theorem f88_ok (q : Q) : ∀ (s : q.S), Ev E false 88 [opT q.co num, (q.vl s).t] [] (q.ex s).t [] := by
  induction q with
  | both x y iha ihb =>
    intro s
    have ia := iha s.1
    have ib := ihb s.2
    have h := q_id (.both x y)
    simp only [Q.co, Q.vl, Q.ex, p2]
    generalize Q.nm (.both x y) = nm at *
    simp only [Q.id] at h
    rw [opT, op_eq]
    generalize ((Co.tp (.mk nm 0 [x.co, y.co]) num).getD (num, num)).1 = A
    generalize ((Co.tp (.mk nm 0 [x.co, y.co]) num).getD (num, num)).2 = O
    obtain ⟨kA, lA, rfl⟩ := mk_at A
    obtain ⟨kO, lO, rfl⟩ := mk_at O
    rw [opT] at ia ib
    generalize x.vl s.1 = v1 at *
    generalize y.vl s.2 = v2 at *
    generalize x.ex s.1 = w1 at *
    generalize y.ex s.2 = w2 at *
    obtain ⟨k1, n1, q1, l1, rfl⟩ := vmk_at v1
    obtain ⟨k2, n2, q2, l2, rfl⟩ := vmk_at v2
    obtain ⟨k3, n3, q3, l3, rfl⟩ := vmk_at w1
    obtain ⟨k4, n4, q4, l4, rfl⟩ := vmk_at w2
    refine ev_of_wp (d := d88) rfl rfl (Nat.le_of_ble_eq_true rfl) ?_
    simp only [go_sem, ↓reduceIte, Nat.reduceLT, Nat.reduceEqDiff, Nat.reduceAdd, Nat.reduceMul, Nat.reduceLeDiff, Nat.reduceBEq, Nat.reduceSub, Int.reduceLT, Int.reduceLE, Int.reduceEq, Int.reduceToNat, reduceCtorEq, Nat.lt_irrefl, Nat.le_refl, d88, c88, opRow, Ty.row, num, Ty.rows, h, Vl.t, Vl.row, Vl.rows, Co.ops]
    refine call0 (ia) (by rfl) (by rfl) (by rfl) (by rfl) ?_
    simp only [go_sem, ↓reduceIte, Nat.reduceLT, Nat.reduceEqDiff, Nat.reduceAdd, Nat.reduceMul, Nat.reduceLeDiff, Nat.reduceBEq, Nat.reduceSub, Int.reduceLT, Int.reduceLE, Int.reduceEq, Int.reduceToNat, reduceCtorEq, Nat.lt_irrefl, Nat.le_refl, Vl.t, Vl.row]
    refine call0 (ib) (by rfl) (by rfl) (by rfl) (by rfl) ?_
    simp only [go_sem, ↓reduceIte, Nat.reduceLT, Nat.reduceEqDiff, Nat.reduceAdd, Nat.reduceMul, Nat.reduceLeDiff, Nat.reduceBEq, Nat.reduceSub, Int.reduceLT, Int.reduceLE, Int.reduceEq, Int.reduceToNat, reduceCtorEq, Nat.lt_irrefl, Nat.le_refl, Vl.t, Vl.row, pV, Vl.rows]
  | mean =>
    intro s
    have h := q_id .mean
    obtain ⟨n, m⟩ := s
    simp only [Q.co, Q.vl, Q.ex, p2]
    generalize Q.nm .mean = nm at *
    simp only [Q.id] at h
    rw [opT, op_eq]
    generalize ((Co.tp (.mk nm 0 []) num).getD (num, num)).1 = A
    generalize ((Co.tp (.mk nm 0 []) num).getD (num, num)).2 = O
    obtain ⟨kA, lA, rfl⟩ := mk_at A
    obtain ⟨kO, lO, rfl⟩ := mk_at O
    refine ev_of_wp (d := d88) rfl rfl (Nat.le_of_ble_eq_true rfl) ?_
    by_cases hm : m = 0
    · rw [if_pos hm]
      simp only [go_sem, ↓reduceIte, Nat.reduceLT, Nat.reduceEqDiff, Nat.reduceAdd, Nat.reduceMul, Nat.reduceLeDiff, Nat.reduceBEq, Nat.reduceSub, Int.reduceLT, Int.reduceLE, Int.reduceEq, Int.reduceToNat, reduceCtorEq, Nat.lt_irrefl, Nat.le_refl, d88, c88, opRow, Ty.row, num, Ty.rows, h, Vl.t, Vl.row, Vl.rows, vi_row, hm]
      refine call0 (f64_ok 0) (by rfl) (by rfl) (by rfl) (by rfl) ?_
      simp only [go_sem, ↓reduceIte, Nat.reduceLT, Nat.reduceEqDiff, Nat.reduceAdd, Nat.reduceMul, Nat.reduceLeDiff, Nat.reduceBEq, Nat.reduceSub, Int.reduceLT, Int.reduceLE, Int.reduceEq, Int.reduceToNat, reduceCtorEq, Nat.lt_irrefl, Nat.le_refl, Vl.t, vi_row]
    · rw [if_neg hm]
      simp only [go_sem, ↓reduceIte, Nat.reduceLT, Nat.reduceEqDiff, Nat.reduceAdd, Nat.reduceMul, Nat.reduceLeDiff, Nat.reduceBEq, Nat.reduceSub, Int.reduceLT, Int.reduceLE, Int.reduceEq, Int.reduceToNat, reduceCtorEq, Nat.lt_irrefl, Nat.le_refl, d88, c88, opRow, Ty.row, num, Ty.rows, h, Vl.t, Vl.row, Vl.rows, vi_row, hm, bin_quo hm]
      refine call0 (f64_ok _) (by rfl) (by rfl) (by rfl) (by rfl) ?_
      simp only [go_sem, ↓reduceIte, Nat.reduceLT, Nat.reduceEqDiff, Nat.reduceAdd, Nat.reduceMul, Nat.reduceLeDiff, Nat.reduceBEq, Nat.reduceSub, Int.reduceLT, Int.reduceLE, Int.reduceEq, Int.reduceToNat, reduceCtorEq, Nat.lt_irrefl, Nat.le_refl, Vl.t, vi_row, W]
  | count =>
    intro s
    have h := q_id .count
    simp only [Q.co, Q.vl, Q.ex]
    generalize Q.nm .count = nm at *
    simp only [Q.id] at h
    rw [opT, op_eq]
    generalize ((Co.tp (.mk nm 0 []) num).getD (num, num)).1 = A
    generalize ((Co.tp (.mk nm 0 []) num).getD (num, num)).2 = O
    obtain ⟨kA, lA, rfl⟩ := mk_at A
    obtain ⟨kO, lO, rfl⟩ := mk_at O
    generalize vi s = v
    obtain ⟨k1, n1, q1, l1, rfl⟩ := vmk_at v
    refine ev_of_wp (d := d88) rfl rfl (Nat.le_of_ble_eq_true rfl) ?_
    simp only [go_sem, ↓reduceIte, Nat.reduceLT, Nat.reduceEqDiff, Nat.reduceAdd, Nat.reduceMul, Nat.reduceLeDiff, Nat.reduceBEq, Nat.reduceSub, Int.reduceLT, Int.reduceLE, Int.reduceEq, Int.reduceToNat, reduceCtorEq, Nat.lt_irrefl, Nat.le_refl, d88, c88, opRow, Ty.row, num, Ty.rows, h, Vl.t, Vl.row]
  | sum =>
    intro s
    have h := q_id .sum
    simp only [Q.co, Q.vl, Q.ex]
    generalize Q.nm .sum = nm at *
    simp only [Q.id] at h
    rw [opT, op_eq]
    generalize ((Co.tp (.mk nm 0 []) num).getD (num, num)).1 = A
    generalize ((Co.tp (.mk nm 0 []) num).getD (num, num)).2 = O
    obtain ⟨kA, lA, rfl⟩ := mk_at A
    obtain ⟨kO, lO, rfl⟩ := mk_at O
    generalize vi s = v
    obtain ⟨k1, n1, q1, l1, rfl⟩ := vmk_at v
    refine ev_of_wp (d := d88) rfl rfl (Nat.le_of_ble_eq_true rfl) ?_
    simp only [go_sem, ↓reduceIte, Nat.reduceLT, Nat.reduceEqDiff, Nat.reduceAdd, Nat.reduceMul, Nat.reduceLeDiff, Nat.reduceBEq, Nat.reduceSub, Int.reduceLT, Int.reduceLE, Int.reduceEq, Int.reduceToNat, reduceCtorEq, Nat.lt_irrefl, Nat.le_refl, d88, c88, opRow, Ty.row, num, Ty.rows, h, Vl.t, Vl.row]
  | min =>
    intro s
    have h := q_id .min
    simp only [Q.co, Q.vl, Q.ex]
    generalize Q.nm .min = nm at *
    simp only [Q.id] at h
    rw [opT, op_eq]
    generalize ((Co.tp (.mk nm 0 []) num).getD (num, num)).1 = A
    generalize ((Co.tp (.mk nm 0 []) num).getD (num, num)).2 = O
    obtain ⟨kA, lA, rfl⟩ := mk_at A
    obtain ⟨kO, lO, rfl⟩ := mk_at O
    generalize bd s = v
    obtain ⟨k1, n1, q1, l1, rfl⟩ := vmk_at v
    refine ev_of_wp (d := d88) rfl rfl (Nat.le_of_ble_eq_true rfl) ?_
    simp only [go_sem, ↓reduceIte, Nat.reduceLT, Nat.reduceEqDiff, Nat.reduceAdd, Nat.reduceMul, Nat.reduceLeDiff, Nat.reduceBEq, Nat.reduceSub, Int.reduceLT, Int.reduceLE, Int.reduceEq, Int.reduceToNat, reduceCtorEq, Nat.lt_irrefl, Nat.le_refl, d88, c88, opRow, Ty.row, num, Ty.rows, h, Vl.t, Vl.row]
  | max =>
    intro s
    have h := q_id .max
    simp only [Q.co, Q.vl, Q.ex]
    generalize Q.nm .max = nm at *
    simp only [Q.id] at h
    rw [opT, op_eq]
    generalize ((Co.tp (.mk nm 0 []) num).getD (num, num)).1 = A
    generalize ((Co.tp (.mk nm 0 []) num).getD (num, num)).2 = O
    obtain ⟨kA, lA, rfl⟩ := mk_at A
    obtain ⟨kO, lO, rfl⟩ := mk_at O
    generalize bd s = v
    obtain ⟨k1, n1, q1, l1, rfl⟩ := vmk_at v
    refine ev_of_wp (d := d88) rfl rfl (Nat.le_of_ble_eq_true rfl) ?_
    simp only [go_sem, ↓reduceIte, Nat.reduceLT, Nat.reduceEqDiff, Nat.reduceAdd, Nat.reduceMul, Nat.reduceLeDiff, Nat.reduceBEq, Nat.reduceSub, Int.reduceLT, Int.reduceLE, Int.reduceEq, Int.reduceToNat, reduceCtorEq, Nat.lt_irrefl, Nat.le_refl, d88, c88, opRow, Ty.row, num, Ty.rows, h, Vl.t, Vl.row]

end Go.Dev.CB
