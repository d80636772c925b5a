/- watershedlaw02.KindChecks returns true for every input, and its arguments read afterwards as they read before. Conditions: none beside those of the given row. -/
import Derived.Test.YtkefplbhpbdhdaaKb
import Derived.Test.YtkefplbhpbdhdaaDe
import Derived.Test.YtkefplbhpbdhdaaRows
import Derived.WalkKit
import Derived.ProofKit
import Derived.OpenShut
import Derived.ChangeOld
import Derived.Below
set_option linter.all false
/- The law's function. -/
namespace Go.Dev.KC
open Go Go.Dev Go.Dev.Wk

theorem f8_ok : Ev E false 8 [] [] (tB true) [] := ⟨2000, by kernel_rfl⟩

end Go.Dev.KC

/- The law's function: one of its regions draws. -/
namespace Go.Dev.KC
open Go Go.Dev Go.Dev.Wk Go.RowKit
set_option maxRecDepth 100000

def pkCode : Code → Code
  | .seq _ (.seq _ (.seq _ (.seq _ (.seq _ (.seq _ (.seq _ (.seq _ (.seq _ (.seq _ (.seq _ (.seq (.seq x _) _))))))))))) => x
  | _ => .skip
noncomputable def body3 : Code := Go.Proofs.Try.f3.body.getD .skip
noncomputable def pkOps : Array Oper := match pkCode body3 with
  | .region _ ops _ => ops
  | _ => #[]
theorem body3_eq : Go.Proofs.Try.f3.body = some body3 := by kernel_rfl
theorem pk_code : pkCode body3 = .region 15 pkOps true := by kernel_rfl
theorem pk_size : pkOps.size = 4 := by kernel_rfl
theorem pk0 : Region.ready .any pkOps #[false, false, false, false] = [0] := by kernel_rfl
theorem pk1 : Region.ready .any pkOps #[true, false, false, false] = [1, 2] := by kernel_rfl
theorem pk2 : Region.ready .any pkOps #[true, true, false, false] = [2] := by kernel_rfl
theorem pk3 : Region.ready .any pkOps #[true, false, true, false] = [1] := by kernel_rfl
theorem pk4 : Region.ready .any pkOps #[true, true, true, false] = [3] := by kernel_rfl
theorem pk5 : Region.ready .any pkOps #[true, true, true, true] = [] := by kernel_rfl

def pkDs : List DOper := [⟨some 118, .alloc 4 [.v (.s (.bool false))], none, false⟩, ⟨none, .store 1 (.t 118) (.c (.one (.v (.s (.bool true))))), none, false⟩, ⟨none, .store 1 (.t 118) (.c (.one (.v (.s (.bool false))))), none, false⟩, ⟨some 119, .load none (.t 118), none, false⟩]
theorem pk_ds : cOpers Go.Proofs.Try.prog (pol 3) pkOps pkOps.toList = some pkDs := by kernel_rfl

theorem c3_code : cC Go.Proofs.Try.prog (pol 3) body3 = some c3 := by
  obtain ⟨body, h1, h2, h3, h4⟩ := cFn_inv tie3
  rw [body3_eq, Option.some.injEq] at h1
  rw [h1]; exact h3

theorem flat_at {l : List Ty} {j : Nat} (h : j < l.length) : (((Ty.flat l).map C.v).drop (0 + j * 2)).take 2 = l[j].row.map C.v := by
  rw [Nat.zero_add]
  induction l generalizing j with
  | nil => simp at h
  | cons a l ih =>
    obtain ⟨k', l', rfl⟩ := mk_at a
    have e : Ty.flat (.mk k' l' :: l) = V.s (.int .i64 k') :: V.sl (Ty.rows l') :: Ty.flat l := rfl
    cases j with
    | zero => rw [e]; rfl
    | succ j =>
      rw [e, show (j + 1) * 2 = j * 2 + 1 + 1 by omega]
      simp only [List.map_cons, List.drop_succ_cons, List.getElem_cons_succ]
      exact ih (by simpa using h)

theorem flat_length (l : List Ty) : ((Ty.flat l).map C.v).length = l.length * 2 := by
  rw [List.length_map, Ty.flat, flat_len (allSz_rows l), rows_len]

/-- of, where the list lies in a variable that is handed in. -/
theorem f9_osl (k : Int) (l : List Ty) (hs : (Ty.mk k l).size ≤ 10000) : Ev E false 9 [.agg [.v (.s (.int .i64 k)), .osl (.fo 0) 2 0 l.length]] [⟨0, 0, (Ty.flat l).map .v⟩] (Ty.mk k l).t [⟨0, 0, (Ty.flat l).map .v⟩] := by
  simp only [Ty.size] at hs
  have hl := len_size l
  have he1 : enterO 46 ((Ty.flat l).map C.v) = (Ty.flat l).map C.v := by
    generalize Ty.flat l = x
    induction x with
    | nil => rfl
    | cons a x ih => simp only [List.map_cons, enterO_v, ih]
  refine ev_of_wp (d := d9) rfl rfl (Nat.le_of_ble_eq_true rfl) ?_
  simp only [go_sem, ↓reduceIte, Nat.reduceLT, Nat.reduceEqDiff, Nat.reduceAdd, Nat.reduceMul, Nat.reduceLeDiff, Nat.reduceBEq, Nat.reduceSub, Int.reduceLT, Int.reduceLE, Int.reduceEq, Int.reduceToNat, reduceCtorEq, Nat.lt_irrefl, Nat.le_refl, d9, c9, Ty.t, Ty.row, he1]
  have he2 : ∀ tm bx, couts (ofF 23 47 tm bx [⟨0, 0, (Ty.flat l).map .v⟩]) [] [⟨0, 0, (Ty.flat l).map .v⟩] = [⟨0, 0, (Ty.flat l).map .v⟩] := by
    intro tm bx
    generalize ofF 23 47 tm bx [⟨0, 0, (Ty.flat l).map .v⟩] = fr
    have : ∀ (x : List V) b u, (cout fr b u (x.map C.v)).1 = x.map C.v := by
      intro x
      induction x with
      | nil => intro b u; simp only [List.map_nil, cout_nil]
      | cons a x ih => intro b u; simp only [List.map_cons, cout_v, ih]
    simp only [couts_cons, couts_nil, this]
  refine loop_ind (I := fun (j : Nat) tm bx fo => j ≤ l.length ∧ fo = [⟨0, 0, (Ty.flat l).map .v⟩] ∧ tm 1 = .one (.ref (.loc 1 1) 0) ∧ tm 2 = .one (.ref (.loc 2 1) 0) ∧ tm 7 = .one (.osl (.fo 0) 2 0 l.length) ∧ tm 8 = tI l.length ∧ tm 9 = tI j ∧
      bx 1 = ⟨1, 24, [.v (.s (.int .i64 k)), .osl (.fo 0) 2 0 l.length]⟩ ∧ bx 2 = ⟨1, 29, [.v (.s (.int .i64 0)), .esl]⟩ ∧
      ((j = 0 ∧ tm 3 = .one .esl) ∨ (0 < j ∧ tm 3 = .one (.lin 17 (bx 17).g 29 ((Ty.rows l).take j))))) (μ := fun j => l.length - j) ?_ 0 _ _ _ ?_
  · rintro j tm bx fo ⟨hj, rfl, h1, h2, h7, h8, h9, b1, b2, h3⟩ IH
    by_cases hjl : j < l.length
    · have e3 := flat_at hjl
      have e4 := flat_length l
      have e6 : 0 + j * 2 + 2 ≤ l.length * 2 := by omega
      have et := take_row hjl
      have e5 := f9_ok _ l[j] (Nat.le_refl _) (by have := size_at hjl; omega)
      obtain ⟨k', l', he⟩ := mk_at l[j]
      rw [he] at e3 e5 et
      simp only [Ty.row] at e3
      simp only [go_sem, ↓reduceIte, Nat.reduceLT, Nat.reduceEqDiff, Nat.reduceAdd, Nat.reduceMul, Nat.reduceLeDiff, Nat.reduceBEq, Nat.reduceSub, Int.reduceLT, Int.reduceLE, Int.reduceEq, Int.reduceToNat, reduceCtorEq, Nat.lt_irrefl, Nat.le_refl, h1, h2, h7, h8, h9, b1, b2, hjl, e4, e6, e3, Ty.row]
      refine call0 (e5) (by rfl) (by rfl) (by rfl) (by rfl) ?_
      rcases h3 with ⟨rfl, h3⟩ | ⟨hj0, h3⟩
      · simp only [go_sem, ↓reduceIte, Nat.reduceLT, Nat.reduceEqDiff, Nat.reduceAdd, Nat.reduceMul, Nat.reduceLeDiff, Nat.reduceBEq, Nat.reduceSub, Int.reduceLT, Int.reduceLE, Int.reduceEq, Int.reduceToNat, reduceCtorEq, Nat.lt_irrefl, Nat.le_refl, h1, h2, h7, h8, h9, b1, b2, h3, Ty.t, Ty.row, appEsl, okB (n := 0 + 1) (b := 32) (by omega)]
        refine IH 1 _ _ _ (by omega) ⟨by omega, rfl, h1, h2, h7, h8, rfl, b1, b2, Or.inr ⟨by omega, ?_⟩⟩
        rw [et]; rfl
      · simp only [go_sem, ↓reduceIte, Nat.reduceLT, Nat.reduceEqDiff, Nat.reduceAdd, Nat.reduceMul, Nat.reduceLeDiff, Nat.reduceBEq, Nat.reduceSub, Int.reduceLT, Int.reduceLE, Int.reduceEq, Int.reduceToNat, reduceCtorEq, Nat.lt_irrefl, Nat.le_refl, h1, h2, h7, h8, h9, b1, b2, h3, Ty.t, Ty.row, appLin, allSz_take (allSz_rows l) j, take_len hj, okB (n := j + (0 + 1)) (b := 32) (by omega)]
        refine IH (j + 1) _ _ _ (by omega) ⟨by omega, rfl, h1, h2, h7, h8, ?_, b1, b2, Or.inr ⟨by omega, ?_⟩⟩
        · show T.one (C.v (V.s (Value.int IntKind.i64 (IntKind.i64.wrap (j + 1))))) = _
          rw [wrap_succ (by omega)]; rfl
        · rw [et]; rfl
    · obtain rfl : j = l.length := by omega
      simp only [go_sem, ↓reduceIte, Nat.reduceLT, Nat.reduceEqDiff, Nat.reduceAdd, Nat.reduceMul, Nat.reduceLeDiff, Nat.reduceBEq, Nat.reduceSub, Int.reduceLT, Int.reduceLE, Int.reduceEq, Int.reduceToNat, reduceCtorEq, Nat.lt_irrefl, Nat.le_refl, h1, h2, h7, h8, h9, b1, b2]
      rcases h3 with ⟨h0, h3⟩ | ⟨_, h3⟩
      · obtain rfl : l = [] := List.length_eq_zero_iff.1 h0
        simp only [go_sem, ↓reduceIte, Nat.reduceLT, Nat.reduceEqDiff, Nat.reduceAdd, Nat.reduceMul, Nat.reduceLeDiff, Nat.reduceBEq, Nat.reduceSub, Int.reduceLT, Int.reduceLE, Int.reduceEq, Int.reduceToNat, reduceCtorEq, Nat.lt_irrefl, Nat.le_refl, h1, h2, b1, b2, h3, Ty.rows, he2]
      · rw [List.take_of_length_le (by rw [rows_len]; exact Nat.le_refl _)] at h3
        simp only [go_sem, ↓reduceIte, Nat.reduceLT, Nat.reduceEqDiff, Nat.reduceAdd, Nat.reduceMul, Nat.reduceLeDiff, Nat.reduceBEq, Nat.reduceSub, Int.reduceLT, Int.reduceLE, Int.reduceEq, Int.reduceToNat, reduceCtorEq, Nat.lt_irrefl, Nat.le_refl, h1, h2, b1, b2, h3, he2]
  · exact ⟨Nat.zero_le _, rfl, rfl, rfl, rfl, rfl, rfl, rfl, rfl, Or.inl ⟨rfl, rfl⟩⟩

theorem f3_mw (t u : Ty) : MW Go.Proofs.Try.prog body3 (enter d3 [t.t, u.t] []) (Wk.Fin d3.res false (tB true) []) := by
  have hc := c3_code
  simp only [c3] at hc
  obtain ⟨a1, b1, e1, h1, q1⟩ := cC_seq hc
  obtain ⟨a2, b2, rfl, h2, q2⟩ := cC_seq q1
  obtain ⟨a3, b3, rfl, h3, q3⟩ := cC_seq q2
  obtain ⟨a4, b4, rfl, h4, q4⟩ := cC_seq q3
  obtain ⟨a5, b5, rfl, h5, q5⟩ := cC_seq q4
  obtain ⟨a6, b6, rfl, h6, q6⟩ := cC_seq q5
  obtain ⟨a7, b7, rfl, h7, q7⟩ := cC_seq q6
  obtain ⟨a8, b8, rfl, h8, q8⟩ := cC_seq q7
  obtain ⟨a9, b9, rfl, h9, q9⟩ := cC_seq q8
  obtain ⟨a10, b10, rfl, h10, q10⟩ := cC_seq q9
  obtain ⟨a11, b11, rfl, h11, q11⟩ := cC_seq q10
  obtain ⟨a12, b12, rfl, h12, q12⟩ := cC_seq q11
  obtain ⟨pk, cd, rfl, h13, h14⟩ := cC_seq h12
  obtain rfl : pk = .region 15 pkOps true := by rw [← pk_code, e1]; rfl
  rw [e1, enter_ofF _ _ _ (Nat.le_of_ble_eq_true rfl)]
  generalize hQ : Wk.Fin d3.res false (tB true) [] = Q
  have a7' := f7_ok t
  have b7' := f7_ok u
  obtain ⟨k, l, rfl⟩ := mk_at t
  obtain ⟨k', l', rfl⟩ := mk_at u
  refine mw_seq (mw_ev laid h1 ?_)
  simp only [go_sem, ↓reduceIte, Nat.reduceLT, Nat.reduceEqDiff, Nat.reduceAdd, Nat.reduceMul, Nat.reduceLeDiff, Nat.reduceBEq, Nat.reduceSub, Int.reduceLT, Int.reduceLE, Int.reduceEq, Int.reduceToNat, reduceCtorEq, Nat.lt_irrefl, Nat.le_refl, d3, Ty.t, Ty.row]
  refine mw_seq (mw_ev laid h2 ?_)
  simp only [go_sem, ↓reduceIte, Nat.reduceLT, Nat.reduceEqDiff, Nat.reduceAdd, Nat.reduceMul, Nat.reduceLeDiff, Nat.reduceBEq, Nat.reduceSub, Int.reduceLT, Int.reduceLE, Int.reduceEq, Int.reduceToNat, reduceCtorEq, Nat.lt_irrefl, Nat.le_refl]
  refine call0 (a7') (by rfl) (by rfl) (by rfl) (by rfl) ?_
  cases ha : (Ty.mk k l).fits with
  | false =>
    simp only [go_sem, ↓reduceIte, Nat.reduceLT, Nat.reduceEqDiff, Nat.reduceAdd, Nat.reduceMul, Nat.reduceLeDiff, Nat.reduceBEq, Nat.reduceSub, Int.reduceLT, Int.reduceLE, Int.reduceEq, Int.reduceToNat, reduceCtorEq, Nat.lt_irrefl, Nat.le_refl, ha]
    refine call0 (f8_ok) (by rfl) (by rfl) (by rfl) (by rfl) ?_
    subst hQ
    simp only [go_sem, ↓reduceIte, Nat.reduceLT, Nat.reduceEqDiff, Nat.reduceAdd, Nat.reduceMul, Nat.reduceLeDiff, Nat.reduceBEq, Nat.reduceSub, Int.reduceLT, Int.reduceLE, Int.reduceEq, Int.reduceToNat, reduceCtorEq, Nat.lt_irrefl, Nat.le_refl, d3]
  | true =>
  simp only [go_sem, ↓reduceIte, Nat.reduceLT, Nat.reduceEqDiff, Nat.reduceAdd, Nat.reduceMul, Nat.reduceLeDiff, Nat.reduceBEq, Nat.reduceSub, Int.reduceLT, Int.reduceLE, Int.reduceEq, Int.reduceToNat, reduceCtorEq, Nat.lt_irrefl, Nat.le_refl, ha]
  refine call0 (b7') (by rfl) (by rfl) (by rfl) (by rfl) ?_
  cases hb : (Ty.mk k' l').fits with
  | false =>
    simp only [go_sem, ↓reduceIte, Nat.reduceLT, Nat.reduceEqDiff, Nat.reduceAdd, Nat.reduceMul, Nat.reduceLeDiff, Nat.reduceBEq, Nat.reduceSub, Int.reduceLT, Int.reduceLE, Int.reduceEq, Int.reduceToNat, reduceCtorEq, Nat.lt_irrefl, Nat.le_refl, hb]
    refine call0 (f8_ok) (by rfl) (by rfl) (by rfl) (by rfl) ?_
    subst hQ
    simp only [go_sem, ↓reduceIte, Nat.reduceLT, Nat.reduceEqDiff, Nat.reduceAdd, Nat.reduceMul, Nat.reduceLeDiff, Nat.reduceBEq, Nat.reduceSub, Int.reduceLT, Int.reduceLE, Int.reduceEq, Int.reduceToNat, reduceCtorEq, Nat.lt_irrefl, Nat.le_refl, d3]
  | true =>
  have sa := fits_size ha
  have sb := fits_size hb
  have a9' := f9_ok _ (.mk k l) sa (by omega)
  have b9' := f9_ok _ (.mk k' l') sb (by omega)
  simp only [go_sem, ↓reduceIte, Nat.reduceLT, Nat.reduceEqDiff, Nat.reduceAdd, Nat.reduceMul, Nat.reduceLeDiff, Nat.reduceBEq, Nat.reduceSub, Int.reduceLT, Int.reduceLE, Int.reduceEq, Int.reduceToNat, reduceCtorEq, Nat.lt_irrefl, Nat.le_refl, hb]
  refine mw_seq (mw_ev laid h3 ?_)
  simp only [go_sem, ↓reduceIte, Nat.reduceLT, Nat.reduceEqDiff, Nat.reduceAdd, Nat.reduceMul, Nat.reduceLeDiff, Nat.reduceBEq, Nat.reduceSub, Int.reduceLT, Int.reduceLE, Int.reduceEq, Int.reduceToNat, reduceCtorEq, Nat.lt_irrefl, Nat.le_refl]
  refine call0 (a9') (by rfl) (by rfl) (by rfl) (by rfl) ?_
  simp only [go_sem, ↓reduceIte, Nat.reduceLT, Nat.reduceEqDiff, Nat.reduceAdd, Nat.reduceMul, Nat.reduceLeDiff, Nat.reduceBEq, Nat.reduceSub, Int.reduceLT, Int.reduceLE, Int.reduceEq, Int.reduceToNat, reduceCtorEq, Nat.lt_irrefl, Nat.le_refl]
  refine call0 (b9') (by rfl) (by rfl) (by rfl) (by rfl) ?_
  simp only [go_sem, ↓reduceIte, Nat.reduceLT, Nat.reduceEqDiff, Nat.reduceAdd, Nat.reduceMul, Nat.reduceLeDiff, Nat.reduceBEq, Nat.reduceSub, Int.reduceLT, Int.reduceLE, Int.reduceEq, Int.reduceToNat, reduceCtorEq, Nat.lt_irrefl, Nat.le_refl, Ty.t, Ty.row]
  refine mw_seq (mw_ev laid h4 ?_)
  simp only [go_sem, ↓reduceIte, Nat.reduceLT, Nat.reduceEqDiff, Nat.reduceAdd, Nat.reduceMul, Nat.reduceLeDiff, Nat.reduceBEq, Nat.reduceSub, Int.reduceLT, Int.reduceLE, Int.reduceEq, Int.reduceToNat, reduceCtorEq, Nat.lt_irrefl, Nat.le_refl]
  refine call0 (f10_ok _ (.mk k l) 6 sa (by omega) (by omega)) (by rfl) (by rfl) (by rfl) (by rfl) ?_
  simp only [go_sem, ↓reduceIte, Nat.reduceLT, Nat.reduceEqDiff, Nat.reduceAdd, Nat.reduceMul, Nat.reduceLeDiff, Nat.reduceBEq, Nat.reduceSub, Int.reduceLT, Int.reduceLE, Int.reduceEq, Int.reduceToNat, reduceCtorEq, Nat.lt_irrefl, Nat.le_refl]
  refine call0 (f10_ok _ (.mk k' l') 6 sb (by omega) (by omega)) (by rfl) (by rfl) (by rfl) (by rfl) ?_
  simp only [go_sem, ↓reduceIte, Nat.reduceLT, Nat.reduceEqDiff, Nat.reduceAdd, Nat.reduceMul, Nat.reduceLeDiff, Nat.reduceBEq, Nat.reduceSub, Int.reduceLT, Int.reduceLE, Int.reduceEq, Int.reduceToNat, reduceCtorEq, Nat.lt_irrefl, Nat.le_refl]
  have e11 := f11_ok (.mk k l) (by omega)
  have e12 := f12_ok (.mk k l) (by omega)
  have e13 := f13_ok (.mk k l) (by omega)
  have e14 := f14_ok (k := k) (l := l) (by omega)
  have e15 := f15_ok (.mk k l) (.mk k' l') (by omega) (by omega)
  have e16 := f16_ok _ (.mk k l) (.mk k' l') sa (by omega)
  have e17 := f17_ok (.mk k l) (by omega)
  rw [okT, okO] at e14
  refine mw_seq (mw_ev laid h5 ?_)
  cases hok : (Ty.mk k l).ok 6 with
  | false =>
    rw [hok] at e11 e12 e13 e14 e15 e17
    simp only [Bool.false_eq_true, if_false, Bool.false_and] at e11 e12 e13 e14 e15 e17
    simp only [go_sem, ↓reduceIte, Nat.reduceLT, Nat.reduceEqDiff, Nat.reduceAdd, Nat.reduceMul, Nat.reduceLeDiff, Nat.reduceBEq, Nat.reduceSub, Int.reduceLT, Int.reduceLE, Int.reduceEq, Int.reduceToNat, reduceCtorEq, Nat.lt_irrefl, Nat.le_refl, hok]
    refine call0 (e11) (by rfl) (by rfl) (by rfl) (by rfl) ?_
    simp only [go_sem, ↓reduceIte, Nat.reduceLT, Nat.reduceEqDiff, Nat.reduceAdd, Nat.reduceMul, Nat.reduceLeDiff, Nat.reduceBEq, Nat.reduceSub, Int.reduceLT, Int.reduceLE, Int.reduceEq, Int.reduceToNat, reduceCtorEq, Nat.lt_irrefl, Nat.le_refl]
    refine mw_seq (mw_ev laid h6 ?_)
    simp only [go_sem, ↓reduceIte, Nat.reduceLT, Nat.reduceEqDiff, Nat.reduceAdd, Nat.reduceMul, Nat.reduceLeDiff, Nat.reduceBEq, Nat.reduceSub, Int.reduceLT, Int.reduceLE, Int.reduceEq, Int.reduceToNat, reduceCtorEq, Nat.lt_irrefl, Nat.le_refl]
    refine call0 (e12) (by rfl) (by rfl) (by rfl) (by rfl) ?_
    simp only [go_sem, ↓reduceIte, Nat.reduceLT, Nat.reduceEqDiff, Nat.reduceAdd, Nat.reduceMul, Nat.reduceLeDiff, Nat.reduceBEq, Nat.reduceSub, Int.reduceLT, Int.reduceLE, Int.reduceEq, Int.reduceToNat, reduceCtorEq, Nat.lt_irrefl, Nat.le_refl]
    refine mw_seq (mw_ev laid h7 ?_)
    simp only [go_sem, ↓reduceIte, Nat.reduceLT, Nat.reduceEqDiff, Nat.reduceAdd, Nat.reduceMul, Nat.reduceLeDiff, Nat.reduceBEq, Nat.reduceSub, Int.reduceLT, Int.reduceLE, Int.reduceEq, Int.reduceToNat, reduceCtorEq, Nat.lt_irrefl, Nat.le_refl]
    refine call0 (e13) (by rfl) (by rfl) (by rfl) (by rfl) ?_
    simp only [go_sem, ↓reduceIte, Nat.reduceLT, Nat.reduceEqDiff, Nat.reduceAdd, Nat.reduceMul, Nat.reduceLeDiff, Nat.reduceBEq, Nat.reduceSub, Int.reduceLT, Int.reduceLE, Int.reduceEq, Int.reduceToNat, reduceCtorEq, Nat.lt_irrefl, Nat.le_refl, zbase]
    refine mw_seq (mw_ev laid h8 ?_)
    simp only [go_sem, ↓reduceIte, Nat.reduceLT, Nat.reduceEqDiff, Nat.reduceAdd, Nat.reduceMul, Nat.reduceLeDiff, Nat.reduceBEq, Nat.reduceSub, Int.reduceLT, Int.reduceLE, Int.reduceEq, Int.reduceToNat, reduceCtorEq, Nat.lt_irrefl, Nat.le_refl]
    refine callA0 (d := 55) e14 (by rfl) (by rfl) (by rfl) (by omega) (by omega) (by rfl) (by rfl) ?_
    simp only [go_sem, ↓reduceIte, Nat.reduceLT, Nat.reduceEqDiff, Nat.reduceAdd, Nat.reduceMul, Nat.reduceLeDiff, Nat.reduceBEq, Nat.reduceSub, Int.reduceLT, Int.reduceLE, Int.reduceEq, Int.reduceToNat, reduceCtorEq, Nat.lt_irrefl, Nat.le_refl]
    refine mw_seq (mw_ev laid h9 ?_)
    simp only [go_sem, ↓reduceIte, Nat.reduceLT, Nat.reduceEqDiff, Nat.reduceAdd, Nat.reduceMul, Nat.reduceLeDiff, Nat.reduceBEq, Nat.reduceSub, Int.reduceLT, Int.reduceLE, Int.reduceEq, Int.reduceToNat, reduceCtorEq, Nat.lt_irrefl, Nat.le_refl]
    refine call0 (e15) (by rfl) (by rfl) (by rfl) (by rfl) ?_
    simp only [go_sem, ↓reduceIte, Nat.reduceLT, Nat.reduceEqDiff, Nat.reduceAdd, Nat.reduceMul, Nat.reduceLeDiff, Nat.reduceBEq, Nat.reduceSub, Int.reduceLT, Int.reduceLE, Int.reduceEq, Int.reduceToNat, reduceCtorEq, Nat.lt_irrefl, Nat.le_refl, beq_self_eq_true]
    refine mw_seq (mw_ev laid h10 ?_)
    simp only [go_sem, ↓reduceIte, Nat.reduceLT, Nat.reduceEqDiff, Nat.reduceAdd, Nat.reduceMul, Nat.reduceLeDiff, Nat.reduceBEq, Nat.reduceSub, Int.reduceLT, Int.reduceLE, Int.reduceEq, Int.reduceToNat, reduceCtorEq, Nat.lt_irrefl, Nat.le_refl]
    refine call0 (e17) (by rfl) (by rfl) (by rfl) (by rfl) ?_
    simp only [go_sem, ↓reduceIte, Nat.reduceLT, Nat.reduceEqDiff, Nat.reduceAdd, Nat.reduceMul, Nat.reduceLeDiff, Nat.reduceBEq, Nat.reduceSub, Int.reduceLT, Int.reduceLE, Int.reduceEq, Int.reduceToNat, reduceCtorEq, Nat.lt_irrefl, Nat.le_refl]
    refine call0 (f8_ok) (by rfl) (by rfl) (by rfl) (by rfl) ?_
    subst hQ
    simp only [go_sem, ↓reduceIte, Nat.reduceLT, Nat.reduceEqDiff, Nat.reduceAdd, Nat.reduceMul, Nat.reduceLeDiff, Nat.reduceBEq, Nat.reduceSub, Int.reduceLT, Int.reduceLE, Int.reduceEq, Int.reduceToNat, reduceCtorEq, Nat.lt_irrefl, Nat.le_refl, d3]
  | true =>
    have e20 := f20_ok 6 (.mk k l) hok
    have e21 := f21_ok 6 (.mk k l) hok
    have e18 := f18_ok _ (.mk k l) sa (by omega)
    have e19 := f19_ok _ (.mk k l) sa (by omega)
    have e22 := f16_ok _ (.mk k l) (.mk k l) sa (by omega)
    rw [same_self] at e22
    obtain ⟨kz, rz, hz⟩ := zrow_base (.mk k l)
    rw [Ty.z, hz] at e13 e20 e21
    rw [hok] at e11 e12 e13 e14 e15 e17
    simp only [if_true, Bool.true_and] at e11 e12 e13 e14 e15 e17
    -- the last region
    have hfin : ∀ tm bx, tm 2 = .one (.ref (.loc 2 1) 0) → tm 5 = .one (.ref (.loc 5 1) 0) → tm 9 = tS (Ty.mk k l).sh → tm 10 = tI 0 → tm 11 = tI ((Ty.mk k l).dep : Nat) → tm 12 = tI 0 → tm 13 = .one (.ref (.loc 13 1) 0) → tm 14 = tI 0 → tm 16 = tI 0 →
        bx 2 = ⟨1, 24, [.v (.s (.int .i64 k)), .v (.sl (Ty.rows l))]⟩ → bx 5 = ⟨1, 29, [.v (.s (.int .i64 k)), .v (.sl (Ty.rows l))]⟩ → bx 13 = ⟨1, 40, (zbase kz rz).map .v⟩ → MW Go.Proofs.Try.prog b12 (ofF 187 374 tm bx []) Q := by
      intro tm bx t2 t5 t9 t10 t11 t12 t13 t14 t16 x2 x5 x13
      refine mw_ev laid q12 ?_
      simp only [go_sem, ↓reduceIte, Nat.reduceLT, Nat.reduceEqDiff, Nat.reduceAdd, Nat.reduceMul, Nat.reduceLeDiff, Nat.reduceBEq, Nat.reduceSub, Int.reduceLT, Int.reduceLE, Int.reduceEq, Int.reduceToNat, reduceCtorEq, Nat.lt_irrefl, Nat.le_refl, t2, t5, t9, t10, t11, t12, t13, t14, t16, x2, x5, x13]
      refine call0 (e17) (by rfl) (by rfl) (by rfl) (by rfl) ?_
      simp only [go_sem, ↓reduceIte, Nat.reduceLT, Nat.reduceEqDiff, Nat.reduceAdd, Nat.reduceMul, Nat.reduceLeDiff, Nat.reduceBEq, Nat.reduceSub, Int.reduceLT, Int.reduceLE, Int.reduceEq, Int.reduceToNat, reduceCtorEq, Nat.lt_irrefl, Nat.le_refl, t2, t5, t9, t10, t11, t12, t13, t14, t16, x2, x5, x13]
      refine call0 (e18) (by rfl) (by rfl) (by rfl) (by rfl) ?_
      simp only [go_sem, ↓reduceIte, Nat.reduceLT, Nat.reduceEqDiff, Nat.reduceAdd, Nat.reduceMul, Nat.reduceLeDiff, Nat.reduceBEq, Nat.reduceSub, Int.reduceLT, Int.reduceLE, Int.reduceEq, Int.reduceToNat, reduceCtorEq, Nat.lt_irrefl, Nat.le_refl, t2, t5, t9, t10, t11, t12, t13, t14, t16, x2, x5, x13]
      refine call0 (e19) (by rfl) (by rfl) (by rfl) (by rfl) ?_
      simp only [go_sem, ↓reduceIte, Nat.reduceLT, Nat.reduceEqDiff, Nat.reduceAdd, Nat.reduceMul, Nat.reduceLeDiff, Nat.reduceBEq, Nat.reduceSub, Int.reduceLT, Int.reduceLE, Int.reduceEq, Int.reduceToNat, reduceCtorEq, Nat.lt_irrefl, Nat.le_refl, t2, t5, t9, t10, t11, t12, t13, t14, t16, x2, x5, x13, zbase]
      refine call0 (e21) (by rfl) (by rfl) (by rfl) (by rfl) ?_
      simp only [go_sem, ↓reduceIte, Nat.reduceLT, Nat.reduceEqDiff, Nat.reduceAdd, Nat.reduceMul, Nat.reduceLeDiff, Nat.reduceBEq, Nat.reduceSub, Int.reduceLT, Int.reduceLE, Int.reduceEq, Int.reduceToNat, reduceCtorEq, Nat.lt_irrefl, Nat.le_refl, zbase]
      refine call0 (e20) (by rfl) (by rfl) (by rfl) (by rfl) ?_
      simp only [go_sem, ↓reduceIte, Nat.reduceLT, Nat.reduceEqDiff, Nat.reduceAdd, Nat.reduceMul, Nat.reduceLeDiff, Nat.reduceBEq, Nat.reduceSub, Int.reduceLT, Int.reduceLE, Int.reduceEq, Int.reduceToNat, reduceCtorEq, Nat.lt_irrefl, Nat.le_refl, t2, t5, x2, x5]
      refine call0 (a9') (by rfl) (by rfl) (by rfl) (by rfl) ?_
      simp only [go_sem, ↓reduceIte, Nat.reduceLT, Nat.reduceEqDiff, Nat.reduceAdd, Nat.reduceMul, Nat.reduceLeDiff, Nat.reduceBEq, Nat.reduceSub, Int.reduceLT, Int.reduceLE, Int.reduceEq, Int.reduceToNat, reduceCtorEq, Nat.lt_irrefl, Nat.le_refl, t5, x5, Ty.t, Ty.row]
      refine call0 (e22) (by rfl) (by rfl) (by rfl) (by rfl) ?_
      simp only [go_sem, ↓reduceIte, Nat.reduceLT, Nat.reduceEqDiff, Nat.reduceAdd, Nat.reduceMul, Nat.reduceLeDiff, Nat.reduceBEq, Nat.reduceSub, Int.reduceLT, Int.reduceLE, Int.reduceEq, Int.reduceToNat, reduceCtorEq, Nat.lt_irrefl, Nat.le_refl]
      refine call0 (f8_ok) (by rfl) (by rfl) (by rfl) (by rfl) ?_
      subst hQ
      simp only [go_sem, ↓reduceIte, Nat.reduceLT, Nat.reduceEqDiff, Nat.reduceAdd, Nat.reduceMul, Nat.reduceLeDiff, Nat.reduceBEq, Nat.reduceSub, Int.reduceLT, Int.reduceLE, Int.reduceEq, Int.reduceToNat, reduceCtorEq, Nat.lt_irrefl, Nat.le_refl, d3]
    simp only [go_sem, ↓reduceIte, Nat.reduceLT, Nat.reduceEqDiff, Nat.reduceAdd, Nat.reduceMul, Nat.reduceLeDiff, Nat.reduceBEq, Nat.reduceSub, Int.reduceLT, Int.reduceLE, Int.reduceEq, Int.reduceToNat, reduceCtorEq, Nat.lt_irrefl, Nat.le_refl, hok]
    refine call0 (e11) (by rfl) (by rfl) (by rfl) (by rfl) ?_
    simp only [go_sem, ↓reduceIte, Nat.reduceLT, Nat.reduceEqDiff, Nat.reduceAdd, Nat.reduceMul, Nat.reduceLeDiff, Nat.reduceBEq, Nat.reduceSub, Int.reduceLT, Int.reduceLE, Int.reduceEq, Int.reduceToNat, reduceCtorEq, Nat.lt_irrefl, Nat.le_refl]
    refine mw_seq (mw_ev laid h6 ?_)
    simp only [go_sem, ↓reduceIte, Nat.reduceLT, Nat.reduceEqDiff, Nat.reduceAdd, Nat.reduceMul, Nat.reduceLeDiff, Nat.reduceBEq, Nat.reduceSub, Int.reduceLT, Int.reduceLE, Int.reduceEq, Int.reduceToNat, reduceCtorEq, Nat.lt_irrefl, Nat.le_refl]
    refine call0 (e12) (by rfl) (by rfl) (by rfl) (by rfl) ?_
    simp only [go_sem, ↓reduceIte, Nat.reduceLT, Nat.reduceEqDiff, Nat.reduceAdd, Nat.reduceMul, Nat.reduceLeDiff, Nat.reduceBEq, Nat.reduceSub, Int.reduceLT, Int.reduceLE, Int.reduceEq, Int.reduceToNat, reduceCtorEq, Nat.lt_irrefl, Nat.le_refl]
    refine mw_seq (mw_ev laid h7 ?_)
    simp only [go_sem, ↓reduceIte, Nat.reduceLT, Nat.reduceEqDiff, Nat.reduceAdd, Nat.reduceMul, Nat.reduceLeDiff, Nat.reduceBEq, Nat.reduceSub, Int.reduceLT, Int.reduceLE, Int.reduceEq, Int.reduceToNat, reduceCtorEq, Nat.lt_irrefl, Nat.le_refl]
    refine call0 (e13) (by rfl) (by rfl) (by rfl) (by rfl) ?_
    simp only [go_sem, ↓reduceIte, Nat.reduceLT, Nat.reduceEqDiff, Nat.reduceAdd, Nat.reduceMul, Nat.reduceLeDiff, Nat.reduceBEq, Nat.reduceSub, Int.reduceLT, Int.reduceLE, Int.reduceEq, Int.reduceToNat, reduceCtorEq, Nat.lt_irrefl, Nat.le_refl, zbase]
    refine mw_seq (mw_ev laid h8 ?_)
    simp only [go_sem, ↓reduceIte, Nat.reduceLT, Nat.reduceEqDiff, Nat.reduceAdd, Nat.reduceMul, Nat.reduceLeDiff, Nat.reduceBEq, Nat.reduceSub, Int.reduceLT, Int.reduceLE, Int.reduceEq, Int.reduceToNat, reduceCtorEq, Nat.lt_irrefl, Nat.le_refl]
    have hsame : ∀ x y : Bool, (x == y) = decide (x = y) := by decide
    cases l with
    | nil =>
      refine callA0 (d := 55) e14 (by rfl) (by rfl) (by rfl) (by omega) (by omega) (toVs_map _) (by rfl) ?_
      simp only [go_sem, ↓reduceIte, Nat.reduceLT, Nat.reduceEqDiff, Nat.reduceAdd, Nat.reduceMul, Nat.reduceLeDiff, Nat.reduceBEq, Nat.reduceSub, Int.reduceLT, Int.reduceLE, Int.reduceEq, Int.reduceToNat, reduceCtorEq, Nat.lt_irrefl, Nat.le_refl, Ty.tA]
      refine mw_seq (mw_ev laid h9 ?_)
      simp only [go_sem, ↓reduceIte, Nat.reduceLT, Nat.reduceEqDiff, Nat.reduceAdd, Nat.reduceMul, Nat.reduceLeDiff, Nat.reduceBEq, Nat.reduceSub, Int.reduceLT, Int.reduceLE, Int.reduceEq, Int.reduceToNat, reduceCtorEq, Nat.lt_irrefl, Nat.le_refl]
      refine call0 (e15) (by rfl) (by rfl) (by rfl) (by rfl) ?_
      have hgo : ∀ tm bx, tm 2 = .one (.ref (.loc 2 1) 0) → tm 5 = .one (.ref (.loc 5 1) 0) → tm 9 = tS (Ty.mk k []).sh → tm 10 = tI 0 → tm 11 = tI ((Ty.mk k []).dep : Nat) → tm 12 = tI 0 → tm 13 = .one (.ref (.loc 13 1) 0) → tm 14 = tI 0 → tm 16 = tI 0 → tm 7 = tB true → tm 15 = .one (.ref (.loc 15 1) 0) →
          bx 2 = ⟨1, 24, [.v (.s (.int .i64 k)), .v (.sl [])]⟩ → bx 5 = ⟨1, 29, [.v (.s (.int .i64 k)), .v (.sl [])]⟩ → bx 13 = ⟨1, 40, (zbase kz rz).map .v⟩ → bx 15 = ⟨1, 24, [.v (.s (.int .i64 k)), .v (.sl [])]⟩ → bx 118 = ⟨0, 0, []⟩ → MW Go.Proofs.Try.prog (a10.seq (a11.seq ((Code.seq (Code.region 15 pkOps true) cd).seq b12))) (ofF 187 374 tm bx []) Q := by
        intro tm bx t2 t5 t9 t10 t11 t12 t13 t14 t16 t7 t15 x2 x5 x13 x15 x118
        refine mw_seq (mw_ev laid h10 ?_)
        simp only [go_sem, ↓reduceIte, Nat.reduceLT, Nat.reduceEqDiff, Nat.reduceAdd, Nat.reduceMul, Nat.reduceLeDiff, Nat.reduceBEq, Nat.reduceSub, Int.reduceLT, Int.reduceLE, Int.reduceEq, Int.reduceToNat, reduceCtorEq, Nat.lt_irrefl, Nat.le_refl, t7]
        refine mw_seq (mw_ev laid h11 ?_)
        simp only [go_sem, ↓reduceIte, Nat.reduceLT, Nat.reduceEqDiff, Nat.reduceAdd, Nat.reduceMul, Nat.reduceLeDiff, Nat.reduceBEq, Nat.reduceSub, Int.reduceLT, Int.reduceLE, Int.reduceEq, Int.reduceToNat, reduceCtorEq, Nat.lt_irrefl, Nat.le_refl, t15, x15, t5, x5]
        refine call0 (a9') (by rfl) (by rfl) (by rfl) (by rfl) ?_
        simp only [go_sem, ↓reduceIte, Nat.reduceLT, Nat.reduceEqDiff, Nat.reduceAdd, Nat.reduceMul, Nat.reduceLeDiff, Nat.reduceBEq, Nat.reduceSub, Int.reduceLT, Int.reduceLE, Int.reduceEq, Int.reduceToNat, reduceCtorEq, Nat.lt_irrefl, Nat.le_refl, t5, x5]
        refine call0 (e22) (by rfl) (by rfl) (by rfl) (by rfl) ?_
        simp only [go_sem, ↓reduceIte, Nat.reduceLT, Nat.reduceEqDiff, Nat.reduceAdd, Nat.reduceMul, Nat.reduceLeDiff, Nat.reduceBEq, Nat.reduceSub, Int.reduceLT, Int.reduceLE, Int.reduceEq, Int.reduceToNat, reduceCtorEq, Nat.lt_irrefl, Nat.le_refl]
        refine mw_seq (mw_seq (mw_pick laid pk_ds pk_size pk0 pk1 pk2 pk3 pk4 pk5 ?_ ?_))
        · simp only [go_sem, ↓reduceIte, Nat.reduceLT, Nat.reduceEqDiff, Nat.reduceAdd, Nat.reduceMul, Nat.reduceLeDiff, Nat.reduceBEq, Nat.reduceSub, Int.reduceLT, Int.reduceLE, Int.reduceEq, Int.reduceToNat, reduceCtorEq, Nat.lt_irrefl, Nat.le_refl, x118]
          refine mw_ev laid h14 ?_
          simp only [go_sem, ↓reduceIte, Nat.reduceLT, Nat.reduceEqDiff, Nat.reduceAdd, Nat.reduceMul, Nat.reduceLeDiff, Nat.reduceBEq, Nat.reduceSub, Int.reduceLT, Int.reduceLE, Int.reduceEq, Int.reduceToNat, reduceCtorEq, Nat.lt_irrefl, Nat.le_refl, t15, x15]
          rw [Wk.wp_loop]
          simp only [go_sem, ↓reduceIte, Nat.reduceLT, Nat.reduceEqDiff, Nat.reduceAdd, Nat.reduceMul, Nat.reduceLeDiff, Nat.reduceBEq, Nat.reduceSub, Int.reduceLT, Int.reduceLE, Int.reduceEq, Int.reduceToNat, reduceCtorEq, Nat.lt_irrefl, Nat.le_refl, ncast0]
          exact hfin _ _ t2 t5 t9 t10 t11 t12 t13 t14 t16 x2 x5 x13
        · simp only [go_sem, ↓reduceIte, Nat.reduceLT, Nat.reduceEqDiff, Nat.reduceAdd, Nat.reduceMul, Nat.reduceLeDiff, Nat.reduceBEq, Nat.reduceSub, Int.reduceLT, Int.reduceLE, Int.reduceEq, Int.reduceToNat, reduceCtorEq, Nat.lt_irrefl, Nat.le_refl, x118]
          refine mw_ev laid h14 ?_
          simp only [go_sem, ↓reduceIte, Nat.reduceLT, Nat.reduceEqDiff, Nat.reduceAdd, Nat.reduceMul, Nat.reduceLeDiff, Nat.reduceBEq, Nat.reduceSub, Int.reduceLT, Int.reduceLE, Int.reduceEq, Int.reduceToNat, reduceCtorEq, Nat.lt_irrefl, Nat.le_refl, t15, x15, ncast0]
          exact hfin _ _ t2 t5 t9 t10 t11 t12 t13 t14 t16 x2 x5 x13
      cases hu : (Ty.mk k' l').ok 6 with
      | false =>
        simp only [go_sem, ↓reduceIte, Nat.reduceLT, Nat.reduceEqDiff, Nat.reduceAdd, Nat.reduceMul, Nat.reduceLeDiff, Nat.reduceBEq, Nat.reduceSub, Int.reduceLT, Int.reduceLE, Int.reduceEq, Int.reduceToNat, reduceCtorEq, Nat.lt_irrefl, Nat.le_refl, hu]
        exact hgo _ _ rfl rfl rfl rfl rfl rfl rfl rfl rfl rfl rfl rfl rfl (by simp only [go_sem, ↓reduceIte, Nat.reduceLT, Nat.reduceEqDiff, Nat.reduceAdd, Nat.reduceMul, Nat.reduceLeDiff, Nat.reduceBEq, Nat.reduceSub, Int.reduceLT, Int.reduceLE, Int.reduceEq, Int.reduceToNat, reduceCtorEq, Nat.lt_irrefl, Nat.le_refl, zbase]) rfl rfl
      | true =>
        simp only [go_sem, ↓reduceIte, Nat.reduceLT, Nat.reduceEqDiff, Nat.reduceAdd, Nat.reduceMul, Nat.reduceLeDiff, Nat.reduceBEq, Nat.reduceSub, Int.reduceLT, Int.reduceLE, Int.reduceEq, Int.reduceToNat, reduceCtorEq, Nat.lt_irrefl, Nat.le_refl, hu]
        refine call0 (e16) (by rfl) (by rfl) (by rfl) (by rfl) ?_
        simp only [go_sem, ↓reduceIte, Nat.reduceLT, Nat.reduceEqDiff, Nat.reduceAdd, Nat.reduceMul, Nat.reduceLeDiff, Nat.reduceBEq, Nat.reduceSub, Int.reduceLT, Int.reduceLE, Int.reduceEq, Int.reduceToNat, reduceCtorEq, Nat.lt_irrefl, Nat.le_refl]
        exact hgo _ _ rfl rfl rfl rfl rfl rfl rfl rfl rfl rfl rfl rfl rfl (by simp only [go_sem, ↓reduceIte, Nat.reduceLT, Nat.reduceEqDiff, Nat.reduceAdd, Nat.reduceMul, Nat.reduceLeDiff, Nat.reduceBEq, Nat.reduceSub, Int.reduceLT, Int.reduceLE, Int.reduceEq, Int.reduceToNat, reduceCtorEq, Nat.lt_irrefl, Nat.le_refl, zbase]) rfl rfl
    | cons a l =>
      refine callA0 (d := 55) e14 (by rfl) (by rfl) (by rfl) (by omega) (by omega) (toVs_map _) (by rfl) ?_
      simp only [go_sem, ↓reduceIte, Nat.reduceLT, Nat.reduceEqDiff, Nat.reduceAdd, Nat.reduceMul, Nat.reduceLeDiff, Nat.reduceBEq, Nat.reduceSub, Int.reduceLT, Int.reduceLE, Int.reduceEq, Int.reduceToNat, reduceCtorEq, Nat.lt_irrefl, Nat.le_refl, Ty.tA]
      refine mw_seq (mw_ev laid h9 ?_)
      simp only [go_sem, ↓reduceIte, Nat.reduceLT, Nat.reduceEqDiff, Nat.reduceAdd, Nat.reduceMul, Nat.reduceLeDiff, Nat.reduceBEq, Nat.reduceSub, Int.reduceLT, Int.reduceLE, Int.reduceEq, Int.reduceToNat, reduceCtorEq, Nat.lt_irrefl, Nat.le_refl]
      refine call0 (e15) (by rfl) (by rfl) (by rfl) (by rfl) ?_
      have hcl : ∀ tm bx, tm 2 = .one (.ref (.loc 2 1) 0) → tm 5 = .one (.ref (.loc 5 1) 0) → tm 9 = tS (Ty.mk k (a :: l)).sh → tm 10 = tI 0 → tm 11 = tI ((Ty.mk k (a :: l)).dep : Nat) → tm 12 = tI 0 → tm 13 = .one (.ref (.loc 13 1) 0) → tm 14 = tI 0 → tm 16 = tI 0 → tm 15 = .one (.ref (.loc 15 1) 0) →
          bx 2 = ⟨1, 24, [.v (.s (.int .i64 k)), .v (.sl (Ty.rows (a :: l)))]⟩ → bx 5 = ⟨1, 29, [.v (.s (.int .i64 k)), .v (.sl (Ty.rows (a :: l)))]⟩ → bx 13 = ⟨1, 40, (zbase kz rz).map .v⟩ → bx 15 = ⟨1, 24, [.v (.s (.int .i64 k)), .osl (.loc 55 1) 2 0 (l.length + 1)]⟩ → (bx 55).g = 1 → (bx 55).cs.length = (l.length + 1) * 2 → bx 118 = ⟨0, 0, []⟩ → MW Go.Proofs.Try.prog ((Code.seq (Code.region 15 pkOps true) cd).seq b12) (ofF 187 374 tm bx []) Q := by
        intro tm bx t2 t5 t9 t10 t11 t12 t13 t14 t16 t15 x2 x5 x13 x15 g55 x55 x118
        refine mw_seq (mw_seq (mw_pick laid pk_ds pk_size pk0 pk1 pk2 pk3 pk4 pk5 ?_ ?_))
        · simp only [go_sem, ↓reduceIte, Nat.reduceLT, Nat.reduceEqDiff, Nat.reduceAdd, Nat.reduceMul, Nat.reduceLeDiff, Nat.reduceBEq, Nat.reduceSub, Int.reduceLT, Int.reduceLE, Int.reduceEq, Int.reduceToNat, reduceCtorEq, Nat.lt_irrefl, Nat.le_refl, x118]
          refine mw_ev laid h14 ?_
          simp only [go_sem, ↓reduceIte, Nat.reduceLT, Nat.reduceEqDiff, Nat.reduceAdd, Nat.reduceMul, Nat.reduceLeDiff, Nat.reduceBEq, Nat.reduceSub, Int.reduceLT, Int.reduceLE, Int.reduceEq, Int.reduceToNat, reduceCtorEq, Nat.lt_irrefl, Nat.le_refl, t15, x15]
          refine loop_ind (I := fun (j : Nat) tm' bx' fo => j ≤ l.length + 1 ∧ fo = [] ∧ (∀ i, i < 100 → i ≠ 17 → tm' i = tm i) ∧ (∀ i, i < 55 → bx' i = bx i) ∧ tm' 131 = tI ((l.length + 1 : Nat) : Int) ∧ tm' 132 = tI j ∧ (bx' 55).g = 1 ∧ (bx' 55).cs.length = (l.length + 1) * 2) (μ := fun j => l.length + 1 - j) ?_ 0 _ _ _ ?_
          · rintro j tm' bx' fo ⟨hj, rfl, htm, hbx, t131, t132, g55', x55'⟩ IH
            have t15' := htm 15 (by decide) (by decide)
            rw [t15] at t15'
            have x15' := hbx 15 (by decide)
            rw [x15] at x15'
            by_cases hjl : j < l.length + 1
            · have e1 : 0 + j * 2 + 2 ≤ (l.length + 1) * 2 := by omega
              simp only [go_sem, ↓reduceIte, Nat.reduceLT, Nat.reduceEqDiff, Nat.reduceAdd, Nat.reduceMul, Nat.reduceLeDiff, Nat.reduceBEq, Nat.reduceSub, Int.reduceLT, Int.reduceLE, Int.reduceEq, Int.reduceToNat, reduceCtorEq, Nat.lt_irrefl, Nat.le_refl, t131, t132, hjl, t15', x15', g55', x55', e1]
              refine IH (j + 1) _ _ _ (by omega) ⟨by omega, rfl, ?_, ?_, t131, ?_, rfl, ?_⟩
              · intro i hi h17
                rw [← htm i hi h17]
                have q1 : ¬ i = 132 := by omega
                have q2 : ¬ i = 140 := by omega
                have q3 : ¬ i = 139 := by omega
                have q4 : ¬ i = 138 := by omega
                have q5 : ¬ i = 137 := by omega
                have q6 : ¬ i = 136 := by omega
                have q7 : ¬ i = 135 := by omega
                have q8 : ¬ i = 134 := by omega
                have q9 : ¬ i = 133 := by omega
                simp only [go_sem, ↓reduceIte, Nat.reduceLT, Nat.reduceEqDiff, Nat.reduceAdd, Nat.reduceMul, Nat.reduceLeDiff, Nat.reduceBEq, Nat.reduceSub, Int.reduceLT, Int.reduceLE, Int.reduceEq, Int.reduceToNat, reduceCtorEq, Nat.lt_irrefl, Nat.le_refl, h17, q1, q2, q3, q4, q5, q6, q7, q8, q9]
              · intro i hi
                rw [← hbx i hi]
                have q1 : ¬ i = 55 := by omega
                simp only [go_sem, ↓reduceIte, Nat.reduceLT, Nat.reduceEqDiff, Nat.reduceAdd, Nat.reduceMul, Nat.reduceLeDiff, Nat.reduceBEq, Nat.reduceSub, Int.reduceLT, Int.reduceLE, Int.reduceEq, Int.reduceToNat, reduceCtorEq, Nat.lt_irrefl, Nat.le_refl, q1]
              · show T.one (C.v (V.s (Value.int IntKind.i64 (IntKind.i64.wrap (j + 1))))) = _
                rw [wrap_succ (by have := fits_size ha; simp only [Ty.size, Ty.sizes] at this; have := len_size l; omega)]; rfl
              · simp only [go_sem, ↓reduceIte, Nat.reduceLT, Nat.reduceEqDiff, Nat.reduceAdd, Nat.reduceMul, Nat.reduceLeDiff, Nat.reduceBEq, Nat.reduceSub, Int.reduceLT, Int.reduceLE, Int.reduceEq, Int.reduceToNat, reduceCtorEq, Nat.lt_irrefl, Nat.le_refl, List.length_append, List.length_take, List.length_drop, x55']
                omega
            · simp only [go_sem, ↓reduceIte, Nat.reduceLT, Nat.reduceEqDiff, Nat.reduceAdd, Nat.reduceMul, Nat.reduceLeDiff, Nat.reduceBEq, Nat.reduceSub, Int.reduceLT, Int.reduceLE, Int.reduceEq, Int.reduceToNat, reduceCtorEq, Nat.lt_irrefl, Nat.le_refl, t131, t132, hjl]
              exact hfin _ _ ((htm 2 (by decide) (by decide)).trans t2) ((htm 5 (by decide) (by decide)).trans t5) ((htm 9 (by decide) (by decide)).trans t9) ((htm 10 (by decide) (by decide)).trans t10) ((htm 11 (by decide) (by decide)).trans t11) ((htm 12 (by decide) (by decide)).trans t12) ((htm 13 (by decide) (by decide)).trans t13) ((htm 14 (by decide) (by decide)).trans t14) ((htm 16 (by decide) (by decide)).trans t16) ((hbx 2 (by decide)).trans x2) ((hbx 5 (by decide)).trans x5) ((hbx 13 (by decide)).trans x13)
          · refine ⟨Nat.zero_le _, rfl, ?_, ?_, rfl, rfl, g55, x55⟩
            · intro i hi h17
              have q1 : ¬ i = 132 := by omega
              have q2 : ¬ i = 131 := by omega
              have q3 : ¬ i = 130 := by omega
              have q4 : ¬ i = 129 := by omega
              have q5 : ¬ i = 119 := by omega
              have q6 : ¬ i = 118 := by omega
              simp only [go_sem, ↓reduceIte, Nat.reduceLT, Nat.reduceEqDiff, Nat.reduceAdd, Nat.reduceMul, Nat.reduceLeDiff, Nat.reduceBEq, Nat.reduceSub, Int.reduceLT, Int.reduceLE, Int.reduceEq, Int.reduceToNat, reduceCtorEq, Nat.lt_irrefl, Nat.le_refl, q1, q2, q3, q4, q5, q6]
            · intro i hi
              have q1 : ¬ i = 118 := by omega
              simp only [go_sem, ↓reduceIte, Nat.reduceLT, Nat.reduceEqDiff, Nat.reduceAdd, Nat.reduceMul, Nat.reduceLeDiff, Nat.reduceBEq, Nat.reduceSub, Int.reduceLT, Int.reduceLE, Int.reduceEq, Int.reduceToNat, reduceCtorEq, Nat.lt_irrefl, Nat.le_refl, q1]
        · simp only [go_sem, ↓reduceIte, Nat.reduceLT, Nat.reduceEqDiff, Nat.reduceAdd, Nat.reduceMul, Nat.reduceLeDiff, Nat.reduceBEq, Nat.reduceSub, Int.reduceLT, Int.reduceLE, Int.reduceEq, Int.reduceToNat, reduceCtorEq, Nat.lt_irrefl, Nat.le_refl, x118]
          refine mw_ev laid h14 ?_
          have hne : (((l.length + 1 : Nat) : Int) = 0) = False := eq_false (by omega)
          simp only [go_sem, ↓reduceIte, Nat.reduceLT, Nat.reduceEqDiff, Nat.reduceAdd, Nat.reduceMul, Nat.reduceLeDiff, Nat.reduceBEq, Nat.reduceSub, Int.reduceLT, Int.reduceLE, Int.reduceEq, Int.reduceToNat, reduceCtorEq, Nat.lt_irrefl, Nat.le_refl, t15, x15, hne]
          refine loop_ind (I := fun (j : Nat) tm' bx' fo => j ≤ l.length + 1 ∧ fo = [] ∧ (∀ i, i < 100 → i ≠ 17 → tm' i = tm i) ∧ (∀ i, i < 55 → bx' i = bx i) ∧ tm' 121 = .one (.osl (.loc 55 1) 2 0 (l.length + 1)) ∧ tm' 122 = tI ((l.length + 1 : Nat) : Int) ∧ tm' 124 = tI j ∧ (bx' 55).g = 1 ∧ (bx' 55).cs.length = (l.length + 1) * 2) (μ := fun j => l.length + 1 - j) ?_ 0 _ _ _ ?_
          · rintro j tm' bx' fo ⟨hj, rfl, htm, hbx, t121, t122, t124, g55', x55'⟩ IH
            by_cases hjl : j < l.length + 1
            · have e1 : 0 + j * 2 + 2 ≤ (l.length + 1) * 2 := by omega
              simp only [go_sem, ↓reduceIte, Nat.reduceLT, Nat.reduceEqDiff, Nat.reduceAdd, Nat.reduceMul, Nat.reduceLeDiff, Nat.reduceBEq, Nat.reduceSub, Int.reduceLT, Int.reduceLE, Int.reduceEq, Int.reduceToNat, reduceCtorEq, Nat.lt_irrefl, Nat.le_refl, t121, t122, t124, hjl, g55', x55', e1]
              refine IH (j + 1) _ _ _ (by omega) ⟨by omega, rfl, ?_, ?_, t121, t122, ?_, rfl, ?_⟩
              · intro i hi h17
                rw [← htm i hi h17]
                have q1 : ¬ i = 124 := by omega
                have q2 : ¬ i = 125 := by omega
                have q3 : ¬ i = 126 := by omega
                have q4 : ¬ i = 127 := by omega
                simp only [go_sem, ↓reduceIte, Nat.reduceLT, Nat.reduceEqDiff, Nat.reduceAdd, Nat.reduceMul, Nat.reduceLeDiff, Nat.reduceBEq, Nat.reduceSub, Int.reduceLT, Int.reduceLE, Int.reduceEq, Int.reduceToNat, reduceCtorEq, Nat.lt_irrefl, Nat.le_refl, q1, q2, q3, q4]
              · intro i hi
                rw [← hbx i hi]
                have q1 : ¬ i = 55 := by omega
                simp only [go_sem, ↓reduceIte, Nat.reduceLT, Nat.reduceEqDiff, Nat.reduceAdd, Nat.reduceMul, Nat.reduceLeDiff, Nat.reduceBEq, Nat.reduceSub, Int.reduceLT, Int.reduceLE, Int.reduceEq, Int.reduceToNat, reduceCtorEq, Nat.lt_irrefl, Nat.le_refl, q1]
              · show T.one (C.v (V.s (Value.int IntKind.i64 (IntKind.i64.wrap (j + 1))))) = _
                rw [wrap_succ (by have := fits_size ha; simp only [Ty.size, Ty.sizes] at this; have := len_size l; omega)]; rfl
              · simp only [go_sem, ↓reduceIte, Nat.reduceLT, Nat.reduceEqDiff, Nat.reduceAdd, Nat.reduceMul, Nat.reduceLeDiff, Nat.reduceBEq, Nat.reduceSub, Int.reduceLT, Int.reduceLE, Int.reduceEq, Int.reduceToNat, reduceCtorEq, Nat.lt_irrefl, Nat.le_refl, List.length_append, List.length_take, List.length_drop, x55']
                omega
            · simp only [go_sem, ↓reduceIte, Nat.reduceLT, Nat.reduceEqDiff, Nat.reduceAdd, Nat.reduceMul, Nat.reduceLeDiff, Nat.reduceBEq, Nat.reduceSub, Int.reduceLT, Int.reduceLE, Int.reduceEq, Int.reduceToNat, reduceCtorEq, Nat.lt_irrefl, Nat.le_refl, t121, t122, t124, hjl]
              exact hfin _ _ ((htm 2 (by decide) (by decide)).trans t2) ((htm 5 (by decide) (by decide)).trans t5) ((htm 9 (by decide) (by decide)).trans t9) ((htm 10 (by decide) (by decide)).trans t10) ((htm 11 (by decide) (by decide)).trans t11) ((htm 12 (by decide) (by decide)).trans t12) ((htm 13 (by decide) (by decide)).trans t13) ((htm 14 (by decide) (by decide)).trans t14) ((htm 16 (by decide) (by decide)).trans t16) ((hbx 2 (by decide)).trans x2) ((hbx 5 (by decide)).trans x5) ((hbx 13 (by decide)).trans x13)
          · refine ⟨Nat.zero_le _, rfl, ?_, ?_, rfl, rfl, rfl, g55, x55⟩
            · intro i hi h17
              have q1 : ¬ i = 124 := by omega
              have q2 : ¬ i = 123 := by omega
              have q3 : ¬ i = 122 := by omega
              have q4 : ¬ i = 121 := by omega
              have q5 : ¬ i = 120 := by omega
              have q6 : ¬ i = 119 := by omega
              have q7 : ¬ i = 118 := by omega
              simp only [go_sem, ↓reduceIte, Nat.reduceLT, Nat.reduceEqDiff, Nat.reduceAdd, Nat.reduceMul, Nat.reduceLeDiff, Nat.reduceBEq, Nat.reduceSub, Int.reduceLT, Int.reduceLE, Int.reduceEq, Int.reduceToNat, reduceCtorEq, Nat.lt_irrefl, Nat.le_refl, q1, q2, q3, q4, q5, q6, q7]
            · intro i hi
              have q1 : ¬ i = 118 := by omega
              simp only [go_sem, ↓reduceIte, Nat.reduceLT, Nat.reduceEqDiff, Nat.reduceAdd, Nat.reduceMul, Nat.reduceLeDiff, Nat.reduceBEq, Nat.reduceSub, Int.reduceLT, Int.reduceLE, Int.reduceEq, Int.reduceToNat, reduceCtorEq, Nat.lt_irrefl, Nat.le_refl, q1]
      have hgo : ∀ tm bx, tm 2 = .one (.ref (.loc 2 1) 0) → tm 5 = .one (.ref (.loc 5 1) 0) → tm 9 = tS (Ty.mk k (a :: l)).sh → tm 10 = tI 0 → tm 11 = tI ((Ty.mk k (a :: l)).dep : Nat) → tm 12 = tI 0 → tm 13 = .one (.ref (.loc 13 1) 0) → tm 14 = tI 0 → tm 16 = tI 0 → tm 7 = tB true → tm 15 = .one (.ref (.loc 15 1) 0) →
          bx 2 = ⟨1, 24, [.v (.s (.int .i64 k)), .v (.sl (Ty.rows (a :: l)))]⟩ → bx 5 = ⟨1, 29, [.v (.s (.int .i64 k)), .v (.sl (Ty.rows (a :: l)))]⟩ → bx 13 = ⟨1, 40, (zbase kz rz).map .v⟩ → bx 15 = ⟨1, 24, [.v (.s (.int .i64 k)), .osl (.loc 55 1) 2 0 (l.length + 1)]⟩ → bx 55 = ⟨1, 0, (Ty.flat (a :: l)).map .v⟩ → bx 242 = ⟨0, 0, []⟩ → bx 118 = ⟨0, 0, []⟩ → MW Go.Proofs.Try.prog (a10.seq (a11.seq ((Code.seq (Code.region 15 pkOps true) cd).seq b12))) (ofF 187 374 tm bx []) Q := by
        intro tm bx t2 t5 t9 t10 t11 t12 t13 t14 t16 t7 t15 x2 x5 x13 x15 x55 x242 x118
        have e9o := f9_osl k (a :: l) (by omega)
        refine mw_seq (mw_ev laid h10 ?_)
        simp only [go_sem, ↓reduceIte, Nat.reduceLT, Nat.reduceEqDiff, Nat.reduceAdd, Nat.reduceMul, Nat.reduceLeDiff, Nat.reduceBEq, Nat.reduceSub, Int.reduceLT, Int.reduceLE, Int.reduceEq, Int.reduceToNat, reduceCtorEq, Nat.lt_irrefl, Nat.le_refl, t7]
        refine mw_seq (mw_ev laid h11 ?_)
        simp only [go_sem, ↓reduceIte, Nat.reduceLT, Nat.reduceEqDiff, Nat.reduceAdd, Nat.reduceMul, Nat.reduceLeDiff, Nat.reduceBEq, Nat.reduceSub, Int.reduceLT, Int.reduceLE, Int.reduceEq, Int.reduceToNat, reduceCtorEq, Nat.lt_irrefl, Nat.le_refl, t15, x15, t5, x5]
        refine callK (by rfl) ?_
        simp only [go_sem, ↓reduceIte, Nat.reduceLT, Nat.reduceEqDiff, Nat.reduceAdd, Nat.reduceMul, Nat.reduceLeDiff, Nat.reduceBEq, Nat.reduceSub, Int.reduceLT, Int.reduceLE, Int.reduceEq, Int.reduceToNat, reduceCtorEq, Nat.lt_irrefl, Nat.le_refl, x55, x242]
        refine callE (e9o) (by rfl) ?_
        have hdr : List.drop (0 + (Ty.flat (a :: l)).length) (List.map C.v (Ty.flat (a :: l))) = [] := List.drop_eq_nil_of_le (by simp)
        simp only [go_sem, ↓reduceIte, Nat.reduceLT, Nat.reduceEqDiff, Nat.reduceAdd, Nat.reduceMul, Nat.reduceLeDiff, Nat.reduceBEq, Nat.reduceSub, Int.reduceLT, Int.reduceLE, Int.reduceEq, Int.reduceToNat, reduceCtorEq, Nat.lt_irrefl, Nat.le_refl, x55, x242, Ty.t, Ty.row, Nat.zero_add, Nat.le_refl, hdr, t5, x5]
        refine call0 (e22) (by rfl) (by rfl) (by rfl) (by rfl) ?_
        simp only [go_sem, ↓reduceIte, Nat.reduceLT, Nat.reduceEqDiff, Nat.reduceAdd, Nat.reduceMul, Nat.reduceLeDiff, Nat.reduceBEq, Nat.reduceSub, Int.reduceLT, Int.reduceLE, Int.reduceEq, Int.reduceToNat, reduceCtorEq, Nat.lt_irrefl, Nat.le_refl]
        refine hcl _ _ t2 t5 t9 t10 t11 t12 t13 t14 t16 t15 x2 x5 x13 x15 rfl ?_ x118
        simp only [go_sem, ↓reduceIte, Nat.reduceLT, Nat.reduceEqDiff, Nat.reduceAdd, Nat.reduceMul, Nat.reduceLeDiff, Nat.reduceBEq, Nat.reduceSub, Int.reduceLT, Int.reduceLE, Int.reduceEq, Int.reduceToNat, reduceCtorEq, Nat.lt_irrefl, Nat.le_refl, List.length_append, List.length_drop, Ty.flat, flat_len (allSz_rows (a :: l)), rows_len]
        omega
      cases hu : (Ty.mk k' l').ok 6 with
      | false =>
        simp only [go_sem, ↓reduceIte, Nat.reduceLT, Nat.reduceEqDiff, Nat.reduceAdd, Nat.reduceMul, Nat.reduceLeDiff, Nat.reduceBEq, Nat.reduceSub, Int.reduceLT, Int.reduceLE, Int.reduceEq, Int.reduceToNat, reduceCtorEq, Nat.lt_irrefl, Nat.le_refl, hu]
        exact hgo _ _ rfl rfl rfl rfl rfl rfl rfl rfl rfl rfl rfl rfl rfl (by simp only [go_sem, ↓reduceIte, Nat.reduceLT, Nat.reduceEqDiff, Nat.reduceAdd, Nat.reduceMul, Nat.reduceLeDiff, Nat.reduceBEq, Nat.reduceSub, Int.reduceLT, Int.reduceLE, Int.reduceEq, Int.reduceToNat, reduceCtorEq, Nat.lt_irrefl, Nat.le_refl, zbase]) rfl rfl rfl rfl
      | true =>
        simp only [go_sem, ↓reduceIte, Nat.reduceLT, Nat.reduceEqDiff, Nat.reduceAdd, Nat.reduceMul, Nat.reduceLeDiff, Nat.reduceBEq, Nat.reduceSub, Int.reduceLT, Int.reduceLE, Int.reduceEq, Int.reduceToNat, reduceCtorEq, Nat.lt_irrefl, Nat.le_refl, hu]
        refine call0 (e16) (by rfl) (by rfl) (by rfl) (by rfl) ?_
        simp only [go_sem, ↓reduceIte, Nat.reduceLT, Nat.reduceEqDiff, Nat.reduceAdd, Nat.reduceMul, Nat.reduceLeDiff, Nat.reduceBEq, Nat.reduceSub, Int.reduceLT, Int.reduceLE, Int.reduceEq, Int.reduceToNat, reduceCtorEq, Nat.lt_irrefl, Nat.le_refl]
        exact hgo _ _ rfl rfl rfl rfl rfl rfl rfl rfl rfl rfl rfl rfl rfl (by simp only [go_sem, ↓reduceIte, Nat.reduceLT, Nat.reduceEqDiff, Nat.reduceAdd, Nat.reduceMul, Nat.reduceLeDiff, Nat.reduceBEq, Nat.reduceSub, Int.reduceLT, Int.reduceLE, Int.reduceEq, Int.reduceToNat, reduceCtorEq, Nat.lt_irrefl, Nat.le_refl, zbase]) rfl rfl rfl rfl

theorem f3_calls (t u : Ty) {w : World} {vs : List Value} (ha : RelTs (c0 w) [t.t, u.t] vs) :
    Calls Go.Proofs.Try.prog 3 ⟨vs⟩ w fun en w' => en = .returned (.bool true) ∧ Below w.heap.size w w' := by
  refine top_mw_true laid at3 body3_eq tie3 ?_ (f3_mw t u) ha
  cases t; cases u; rfl

end Go.Dev.KC

/- The row: the arguments opened, the law's call, the arguments shut. -/
namespace Go.Proofs.Ytkefplbhpbdhdaa.kindChecksDone
open Go Go.ChangeShapes Go.WideShapes Go.ChangeAt Go.RowKit Go.Dev Go.Dev.Wk Go.Dev.KC

theorem own : ownKnob Try.prog.godebug = Option.none := by kernel_rfl
theorem laidOut : laidOutB Try.prog = true := by kernel_rfl
theorem cells24 : Try.prog.cellsOf 24 = 2 := by kernel_rfl
theorem cells22 : Try.prog.cellsOf 22 = 1 := by kernel_rfl
theorem cells3 : Try.prog.cellsOf 3 = 1 := by kernel_rfl

theorem two_of {α : Type} {cs : List α} (h : cs.length = 2) : ∃ a b, cs = [a, b] := by
  match cs, h with
  | [a, b], _ => exact ⟨a, b, rfl⟩

theorem mapM_at {α β : Type} {f : α → Option β} : ∀ {l : List α} {r : List β}, l.mapM f = some r → ∀ (i : Nat) (x : α), l[i]? = some x → f x = r[i]? := fun h i x hx => mapM_some_get h i x hx

theorem cells_at {w : World} {base : Nat} {a : Addr} {n : Nat} {cs : List Value} (h : w.cells? base a n = some cs) : cs.length = n ∧ ∀ i, i < n → w.cell? (a.add i) = cs[i]? := by
  simp only [World.cells?] at h
  split at h
  · refine ⟨by simpa using mapM_some_length h, fun i hi => ?_⟩
    exact mapM_some_get h i i (by simp [hi])
  · cases h

theorem cell_below {w : World} {b o : Nat} {v : Value} (h : w.cell? ⟨b, o, Option.none⟩ = some v) : o < G0 w b := by
  simp only [World.cell?] at h
  simp only [G0]
  cases hb : w.heap[b]? with
  | none => simp [hb] at h
  | some bl =>
    cases bl with
    | cells arr ty fz =>
      simp only [hb] at h ⊢
      simp only [Option.isSome_none, Bool.false_eq_true, if_false] at h
      exact (Array.getElem?_eq_some_iff.1 h).1
    | _ => simp [hb] at h

variable {H : Type} {enc : TypeId × Value → H} {w : World} {base : Nat} {spare : Nat → Bool} {held : Bool}

theorem add_none (b o n : Nat) : (⟨b, o, Option.none⟩ : Addr).add n = ⟨b, o + n, Option.none⟩ := by
  simp only [Addr.add]; split
  · subst_vars; rfl
  · rfl

theorem rel_rows {G : Nat → Nat} {b : Nat} : ∀ (l : List Ty) (o : Nat), (∀ i, (hi : i < l.length) → ∀ (j : Nat) (c : V), l[i].row[j]? = some c → ∃ v : Value, o + (i * 2 + j) < G b ∧ w.cell? ⟨b, o + (i * 2 + j), Option.none⟩ = some v ∧ RelV w G c v) → RelRows w G 2 b o (Ty.rows l)
  | [], o, h => by simp only [Ty.rows, RelRows]
  | t :: ts, o, h => by
    simp only [Ty.rows, RelRows]
    refine ⟨by cases t; rfl, RelRow.mk fun i c hc => ?_, rel_rows ts (o + 2) fun i hi j c hc => ?_⟩
    · have := h 0 (by simp) i c hc
      simpa only [Nat.zero_mul, Nat.zero_add] using this
    · have := h (i + 1) (by simpa using hi) j c (by simpa using hc)
      rw [show o + ((i + 1) * 2 + j) = o + 2 + (i * 2 + j) by omega] at this
      exact this

/-- A trodden type is a tree. -/
theorem open_ty (N : Nat) : ∀ (fuel : Nat), fuel ≤ N → ∀ (cs : List Value) (x : DataW H × List MemPlace), DataW.trod enc Try.prog w base spare held fuel 24 cs = some x → ∃ t : Ty, cs.length = 2 ∧ ∀ (i : Nat) (c : V), t.row[i]? = some c → ∃ v : Value, cs[i]? = some v ∧ RelV w (G0 w) c v := by
  induction N with
  | zero => intro fuel hf cs x h; obtain rfl : fuel = 0 := by omega
            simp [DataW.trod] at h
  | succ N ih =>
  intro fuel hf cs x h
  obtain ⟨xs, n, rfl, rfl, hl, hlen, hfs⟩ := DataW.trod_struct Try.underlying24 h
  rw [cells24] at hl
  have f0 := hfs 0 ⟨"Kind", 3, 0, false, "", "", 0⟩ rfl
  have f1 := hfs 1 ⟨"Args", 22, 1, false, "", "", 8⟩ rfl
  simp only [cells3, cells22, List.drop_zero] at f0 f1
  obtain ⟨c0, c1, rfl⟩ := two_of hl
  simp only [List.take_succ_cons, List.take_zero, List.drop_succ_cons, List.drop_zero] at f0 f1
  have hx0 : 0 < xs.length := by rw [hlen]; decide
  have hx1 : 1 < xs.length := by rw [hlen]; decide
  rw [List.getElem?_eq_getElem hx0] at f0
  rw [List.getElem?_eq_getElem hx1] at f1
  obtain ⟨k, e0, _, _⟩ := DataW.trod_int Try.underlying3 f0
  obtain rfl : c0 = .int .i64 k := by simpa using e0
  have mk : ∀ l : List Ty, RelV w (G0 w) (.sl (Ty.rows l)) c1 → ∃ t : Ty, [Value.int .i64 k, c1].length = 2 ∧ ∀ (i : Nat) (c : V), t.row[i]? = some c → ∃ v : Value, [Value.int .i64 k, c1][i]? = some v ∧ RelV w (G0 w) c v := by
    intro l hr
    refine ⟨.mk k l, rfl, fun i c hc => ?_⟩
    match i, hc with
    | 0, hc => simp [Ty.row] at hc; subst hc; exact ⟨_, rfl, by simp only [RelV]; exact ⟨trivial, rfl⟩⟩
    | 1, hc => simp [Ty.row] at hc; subst hc; exact ⟨_, rfl, hr⟩
    | i + 2, hc => simp [Ty.row] at hc
  rcases DataW.trod_slice Try.underlying22 f1 with ⟨e1, _⟩ | ⟨a, len, cap, elems, rest, n', rfl, e1, _, hb, hlc, hcm, hel, hat, _, _⟩
  · obtain rfl : c1 = .slice Option.none 0 0 := by simpa using e1
    exact mk [] (by simp only [RelV]; exact ⟨_, _, _, 2, rfl, rfl, Nat.le_refl _, .inl rfl⟩)
  · obtain rfl : c1 = .slice (some a) len cap := by simpa using e1
    rw [cells24] at hat
    -- each element
    have each : ∀ i, i < len → ∃ t : Ty, ∀ (j : Nat) (c : V), t.row[j]? = some c → ∃ v : Value, w.cell? (a.add (i * 2 + j)) = some v ∧ RelV w (G0 w) c v := by
      intro i hi
      have h1 := hat i hi
      rw [List.getElem?_eq_getElem (by omega), Option.bind_eq_some_iff] at h1
      obtain ⟨cs', h2, h3⟩ := h1
      obtain ⟨hc1, hc2⟩ := cells_at h2
      obtain ⟨t, ht1, ht2⟩ := ih n' (by omega) cs' _ h3
      refine ⟨t, fun j c hj => ?_⟩
      obtain ⟨v, hv1, hv2⟩ := ht2 j c hj
      have hj2 : j < 2 := by
        have := (List.getElem?_eq_some_iff.1 hv1).1
        omega
      refine ⟨v, ?_, hv2⟩
      have := hc2 j hj2
      rw [hv1] at this
      rw [Addr.add_add] at this; exact this
    have all : ∀ m, m ≤ len → ∃ l : List Ty, l.length = m ∧ ∀ i, (hi : i < l.length) → ∀ (j : Nat) (c : V), l[i].row[j]? = some c → ∃ v : Value, w.cell? (a.add (i * 2 + j)) = some v ∧ RelV w (G0 w) c v := by
      intro m
      induction m with
      | zero => intro _; exact ⟨[], rfl, fun i hi => absurd hi (Nat.not_lt_zero _)⟩
      | succ m ihm =>
        intro hm
        obtain ⟨l, l1, l2⟩ := ihm (by omega)
        obtain ⟨t, ht⟩ := each m (by omega)
        refine ⟨l ++ [t], by simp [l1], fun i hi j c hc => ?_⟩
        by_cases him : i < l.length
        · rw [List.getElem_append_left him] at hc
          exact l2 i him j c hc
        · obtain rfl : i = m := by simp at hi; omega
          have : (l ++ [t])[i] = t := by rw [List.getElem_append_right (by omega)]; simp [l1]
          rw [this] at hc
          exact ht j c hc
    obtain ⟨l, l1, l2⟩ := all len (Nat.le_refl _)
    refine mk l ?_
    simp only [RelV]
    refine ⟨_, _, _, 2, rfl, by rw [rows_len]; exact l1.symm, hlc, ?_⟩
    by_cases h0 : len = 0
    · left; obtain rfl : l = [] := List.length_eq_zero_iff.1 (by omega); rfl
    · right
      obtain ⟨b, o, spot⟩ := a
      have hspot : spot = Option.none := by
        obtain ⟨k', l', he⟩ := mk_at (l[0]'(by omega))
        obtain ⟨v, hv, _⟩ := l2 0 (by omega) 0 (.s (.int .i64 k')) (by rw [he]; rfl)
        exact World.cell?_spot hv
      subst hspot
      refine ⟨b, o, rfl, rel_rows l o fun i hi j c hc => ?_⟩
      obtain ⟨v, hv, hr⟩ := l2 i hi j c hc
      rw [add_none] at hv
      exact ⟨v, cell_below hv, hv, hr⟩

set_option maxRecDepth 100000 in
theorem open_arg {v : Value} {d : DataW H} {p : List MemPlace} (h : DataW.Trod enc Try.prog w base spare held 24 v d p) {r : Reach} {base2 : Nat} (hk : Value.okWide Try.prog w r base2 24 v) : ∃ t : Ty, RelT (c0 w) t.t v := by
  obtain ⟨cs, rfl, hc⟩ := okWide_struct Try.underlying24 hk
  obtain ⟨fuel, hf⟩ := h
  obtain ⟨t, h1, h2⟩ := open_ty fuel fuel (Nat.le_refl _) _ _ hf
  refine ⟨t, ?_⟩
  simp only [Ty.t, RelT]
  obtain ⟨l⟩ := cs
  refine ⟨l, rfl, RelCs.mk ?_ fun i x v hx hv => ?_⟩
  · have : l.length = 2 := h1
    cases t; simp [Ty.row, this]
  · rw [List.getElem?_map, Option.map_eq_some_iff] at hx
    obtain ⟨y, hy, rfl⟩ := hx
    obtain ⟨u, hu, hr⟩ := h2 i y hy
    have : u = v := by
      have hv' : (Value.agg ⟨l⟩).cells.toList[i]? = some v := hv
      rw [hu, Option.some.injEq] at hv'; exact hv'
    subst this
    exact hr

set_option maxRecDepth 100000 in
theorem lifted (os : Os) (started : os.Started) (H : Type) (enc : TypeId × Value → H) :
    ReturnsInHanded {} Try.checked os 3 .any (Rows.kindChecksSpec.pre6 enc Try.prog Try.f3 Rows.kindChecksRow.domain false) (Rows.kindChecksSpec.post enc Try.prog Try.f3 false true false false) := by
  refine returnsInHanded_of_change (C := Try.checked) own started (by kernel_rfl) Try.func3
    (ChangeSpec.witness6 (enc := enc) (C := Try.checked) false ⟨#[], #[.agg #[.int .i64 0, .slice Option.none 0 0], .agg #[.int .i64 0, .slice Option.none 0 0]], []⟩ 8 (by kernel_rfl) (by kernel_rfl) (by kernel_rfl) (by kernel_rfl)) ?_
  intro W base args ds gs before hval0 hW hcnd _
  have hval : ∀ (j : Nat) t v, Try.f3.params[j]? = some t → args[j]? = some v → Value.okWide Try.prog W .any base t v := hval0
  have hW' := hW
  obtain ⟨p, q, hA0, hV, rfl, hfz, hnd⟩ := hW
  have hA : DataW.TrodAll enc Try.prog W 0 (fun _ => true) true Try.f3.params.toList args.toList ds p := hA0
  rw [Try.params3] at hA hval
  obtain ⟨v0, vs0, d0, ds0, p0, q0, hargs, rfl, rfl, h0, r0⟩ := trodAll_cons hA
  obtain ⟨v1, vs1, d1, ds1, p1, q1, rfl, rfl, rfl, h1, r1⟩ := trodAll_cons r0
  obtain ⟨rfl, rfl, rfl⟩ := trodAll_nil r1
  obtain rfl : args = #[v0, v1] := by cases args; simp_all
  obtain ⟨rfl, rfl⟩ := trodVars_none hV
  obtain ⟨t, ht⟩ := open_arg h0 (hval 0 24 v0 rfl rfl)
  obtain ⟨u, hu⟩ := open_arg h1 (hval 1 24 v1 rfl rfl)
  have k0 := h0
  have lt0 : ∀ x ∈ p0, x.block < W.heap.size := by obtain ⟨m, hm⟩ := k0; exact DataW.trod_lt m _ _ _ hm
  have k1 := h1
  have lt1 : ∀ x ∈ p1, x.block < W.heap.size := by obtain ⟨m, hm⟩ := k1; exact DataW.trod_lt m _ _ _ hm
  clear hA0 hval0
  refine (f3_calls t u (w := W) (vs := [v0, v1]) (by simp only [RelTs]; exact ⟨ht, hu, trivial⟩)).mono fun e W' ⟨he, bel⟩ => ?_
  subst he
  exact ⟨_, rfl, _, _, _, [], _, [], hW', trodAll_mk1 (shut_bool Try.underlying4 _), (trodAll_cons_mk (Below.trod laidOut (by kernel_rfl) (of_decide_eq_true (by kernel_rfl)) k0 bel lt0) (trodAll_cons_mk (Below.trod laidOut (by kernel_rfl) (of_decide_eq_true (by kernel_rfl)) k1 bel lt1) trodAll_mk0)), rfl, bel.frame _, fun h => by cases h⟩

theorem over : Rows.kindChecksRow.holds Try.pinned (OpenSpec.ofChange Rows.kindChecksSpec) :=
  OpenClaim.holds_of_wide 3 Try.f3 rfl rfl rfl rfl rfl rfl rfl ⟨rfl, rfl, rfl, rfl, rfl⟩ rfl rfl rfl rfl rfl (by kernel_rfl) Try.func3 (by kernel_rfl)
    (of_decide_eq_true (by kernel_rfl)) (by unfold Func.isWrapper; first | (rw [if_pos (by decide +kernel)]; kernel_rfl) | (rw [if_neg (by decide +kernel)]; exact ⟨rfl, rfl⟩))
    (fun os started H enc _ => lifted os started H enc)

/-- The statement. -/
theorem proved : Rows.KindChecksSaid := over
#print axioms proved

end Go.Proofs.Ytkefplbhpbdhdaa.kindChecksDone
