/- What the functions that the laws of the combiners reach compute, each told by the calculus of the evaluator. -/
import Derived.Test.YtkefplbhpbdhdaaCd
set_option linter.all false
/- New: a combiner with a type. -/
namespace Go.Dev.CB
open Go Go.Dev Go.Dev.Wk
set_option maxRecDepth 100000

def opRow (nm : ByteArray) (k : Int) (t a o : Ty) (ps : List (List V)) : List V := [.s (.string nm), .s (.int .i64 k)] ++ t.row ++ a.row ++ o.row ++ [.sl ps]

mutual
def Co.op : Co → Ty → List V
  | .mk nm k ps, t => opRow nm (if nid nm = 8 then k else 16) t ((Co.tp (.mk nm k ps) t).getD (num, num)).1 ((Co.tp (.mk nm k ps) t).getD (num, num)).2 (Co.ops ps t)
def Co.ops : List Co → Ty → List (List V)
  | [], _ => []
  | p :: ps, t => [.pt (p.op t)] :: Co.ops ps t
end
theorem op_eq (nm : ByteArray) (k : Int) (ps : List Co) (t : Ty) : Co.op (.mk nm k ps) t = opRow nm (if nid nm = 8 then k else 16) t ((Co.tp (.mk nm k ps) t).getD (num, num)).1 ((Co.tp (.mk nm k ps) t).getD (num, num)).2 (Co.ops ps t) := rfl

def nilT : T := .one (.v (.s (.pointer none)))
def opT (c : Co) (t : Ty) : T := .one (.v (.pt (c.op t)))
def newR (c : Co) (t : Ty) : T := if (c.tp t).isSome = true then .tup [opT c t, tI 0] else .tup [nilT, tI 80]

/-- The variable that pair is handed: what stands in it by then. -/
def obO (nm : ByteArray) (t : Ty) (cs : List C) : Ob := ⟨0, 105, [.v (.s (.string nm)), .v (.s (.int .i64 16)), .v (.s (.int .i64 t.kind)), .v (.sl (Ty.rows t.args))] ++ cs⟩

theorem op_acc {c : Co} {t a o : Ty} (h : c.tp t = some (a, o)) : ∃ nm k ps, c.op t = opRow nm k t a o ps := by
  obtain ⟨nm, k, ps, rfl⟩ := cmk_at c
  rw [op_eq, h]; exact ⟨_, _, _, rfl⟩

section
variable {nm : ByteArray} {p q : Co} {t : Ty}

/-- pair's end, where the first part is refused. -/
theorem f55_no1 {nm' : ByteArray} {k' : Int} (hp : p.tp t = none) (ip : Ev E false 24 [p.t, t.t] [] (newR p t) []) :
    Ev E false 55 [.one (.ref (.fo 0) 0), (Co.mk nm' k' [p, q]).t] [obO nm t [.v (.s (.int .i64 2)), .esl, .v (.s (.int .i64 2)), .esl, .esl]] (.tup [nilT, tI 80]) [obO nm t [.v (.s (.int .i64 6)), .esl, .v (.s (.int .i64 6)), .esl, .esl]] := by
  refine ev_of_wp (d := d55) rfl rfl (Nat.le_of_ble_eq_true rfl) ?_
  rw [newR, hp] at ip
  simp only [Option.isSome_none, Bool.false_eq_true, if_false] at ip
  obtain ⟨kt, lt, rfl⟩ := mk_at t
  obtain ⟨na, ka, pa, rfl⟩ := cmk_at p
  simp only [go_sem, ↓reduceIte, Nat.reduceLT, Nat.reduceEqDiff, Nat.reduceAdd, Nat.reduceMul, Nat.reduceLeDiff, Nat.reduceBEq, Nat.reduceSub, Int.reduceLT, Int.reduceLE, Int.reduceEq, Int.reduceToNat, reduceCtorEq, Nat.lt_irrefl, Nat.le_refl, d55, c55, Co.t, Co.row, obO, Co.rows, Ty.kind, Ty.args]
  rw [Wk.wp_loop]
  simp only [go_sem, ↓reduceIte, Nat.reduceLT, Nat.reduceEqDiff, Nat.reduceAdd, Nat.reduceMul, Nat.reduceLeDiff, Nat.reduceBEq, Nat.reduceSub, Int.reduceLT, Int.reduceLE, Int.reduceEq, Int.reduceToNat, reduceCtorEq, Nat.lt_irrefl, Nat.le_refl, Co.row, ncast0, ncast2]
  refine call0 (ip) (by rfl) (by rfl) (by rfl) (by rfl) ?_
  simp only [go_sem, ↓reduceIte, Nat.reduceLT, Nat.reduceEqDiff, Nat.reduceAdd, Nat.reduceMul, Nat.reduceLeDiff, Nat.reduceBEq, Nat.reduceSub, Int.reduceLT, Int.reduceLE, Int.reduceEq, Int.reduceToNat, reduceCtorEq, Nat.lt_irrefl, Nat.le_refl, nilT]

/-- pair's end, where the second part is refused. -/
theorem f55_no2 {nm' : ByteArray} {k' : Int} {a o : Ty} (hp : p.tp t = some (a, o)) (hq : q.tp t = none) (ip : Ev E false 24 [p.t, t.t] [] (newR p t) []) (iq : Ev E false 24 [q.t, t.t] [] (newR q t) []) :
    ∃ cs, Ev E false 55 [.one (.ref (.fo 0) 0), (Co.mk nm' k' [p, q]).t] [obO nm t [.v (.s (.int .i64 2)), .esl, .v (.s (.int .i64 2)), .esl, .esl]] (.tup [nilT, tI 80]) [obO nm t [.v (.s (.int .i64 6)), .own 24 [a.row], .v (.s (.int .i64 6)), .v (.sl [o.row]), .v (.sl cs)]] := by
  obtain ⟨nm2, k2, ps2, e2⟩ := op_acc hp
  refine ⟨[[.pt (p.op t)]], ?_⟩
  refine ev_of_wp (d := d55) rfl rfl (Nat.le_of_ble_eq_true rfl) ?_
  rw [newR, hp] at ip
  rw [newR, hq] at iq
  simp only [Option.isSome_none, Option.isSome_some, Bool.false_eq_true, if_false, if_true, opT] at ip iq
  rw [e2] at ip ⊢
  obtain ⟨kt, lt, rfl⟩ := mk_at t
  obtain ⟨ka, la, rfl⟩ := mk_at a
  obtain ⟨ko, lo, rfl⟩ := mk_at o
  obtain ⟨na, ka', pa, rfl⟩ := cmk_at p
  obtain ⟨nb, kb', pb, rfl⟩ := cmk_at q
  have w1 : IntKind.i64.wrap 1 = 1 := by decide
  have w2 : IntKind.i64.wrap 2 = 2 := by decide
  simp only [go_sem, ↓reduceIte, Nat.reduceLT, Nat.reduceEqDiff, Nat.reduceAdd, Nat.reduceMul, Nat.reduceLeDiff, Nat.reduceBEq, Nat.reduceSub, Int.reduceLT, Int.reduceLE, Int.reduceEq, Int.reduceToNat, reduceCtorEq, Nat.lt_irrefl, Nat.le_refl, d55, c55, Co.t, Co.row, obO, Co.rows, Ty.kind, Ty.args]
  rw [Wk.wp_loop]
  simp only [go_sem, ↓reduceIte, Nat.reduceLT, Nat.reduceEqDiff, Nat.reduceAdd, Nat.reduceMul, Nat.reduceLeDiff, Nat.reduceBEq, Nat.reduceSub, Int.reduceLT, Int.reduceLE, Int.reduceEq, Int.reduceToNat, reduceCtorEq, Nat.lt_irrefl, Nat.le_refl, Co.row, ncast0, ncast2]
  refine call0 (ip) (by rfl) (by rfl) (by rfl) (by rfl) ?_
  simp only [go_sem, ↓reduceIte, Nat.reduceLT, Nat.reduceEqDiff, Nat.reduceAdd, Nat.reduceMul, Nat.reduceLeDiff, Nat.reduceBEq, Nat.reduceSub, Int.reduceLT, Int.reduceLE, Int.reduceEq, Int.reduceToNat, reduceCtorEq, Nat.lt_irrefl, Nat.le_refl, opRow, Ty.row, appEsl, okB (n := 0 + 1) (b := 8) (by omega), okB (n := 0 + 1) (b := 32) (by omega)]
  rw [Wk.wp_loop]
  simp only [go_sem, ↓reduceIte, Nat.reduceLT, Nat.reduceEqDiff, Nat.reduceAdd, Nat.reduceMul, Nat.reduceLeDiff, Nat.reduceBEq, Nat.reduceSub, Int.reduceLT, Int.reduceLE, Int.reduceEq, Int.reduceToNat, reduceCtorEq, Nat.lt_irrefl, Nat.le_refl, Co.row, ncast0, ncast2, w1, Int.reduceAdd]
  refine call0 (iq) (by rfl) (by rfl) (by rfl) (by rfl) ?_
  simp only [go_sem, ↓reduceIte, Nat.reduceLT, Nat.reduceEqDiff, Nat.reduceAdd, Nat.reduceMul, Nat.reduceLeDiff, Nat.reduceBEq, Nat.reduceSub, Int.reduceLT, Int.reduceLE, Int.reduceEq, Int.reduceToNat, reduceCtorEq, Nat.lt_irrefl, Nat.le_refl, nilT]

/-- pair's end, where both parts are taken. -/
theorem f55_two {nm' : ByteArray} {k' : Int} {a o a2 o2 : Ty} (hp : p.tp t = some (a, o)) (hq : q.tp t = some (a2, o2)) (ip : Ev E false 24 [p.t, t.t] [] (newR p t) []) (iq : Ev E false 24 [q.t, t.t] [] (newR q t) []) :
    Ev E false 55 [.one (.ref (.fo 0) 0), (Co.mk nm' k' [p, q]).t] [obO nm t [.v (.s (.int .i64 2)), .esl, .v (.s (.int .i64 2)), .esl, .esl]]
      (if (pr a a2).ok 6 = true then if (pr o o2).ok 6 = true then .tup [.one (.ref (.fo 0) 0), tI 0] else .tup [nilT, tI 80] else .tup [nilT, tI 80])
      [obO nm t [.v (.s (.int .i64 6)), .own 24 [a.row, a2.row], .v (.s (.int .i64 6)), .v (.sl [o.row, o2.row]), .v (.sl [[.pt (p.op t)], [.pt (q.op t)]])]] := by
  obtain ⟨nm2, k2, ps2, e2⟩ := op_acc hp
  obtain ⟨nm3, k3, ps3, e3⟩ := op_acc hq
  have s1 := ok_size 6 _ (tp_ok hp).1
  have s2 := ok_size 6 _ (tp_ok hp).2
  have s3 := ok_size 6 _ (tp_ok hq).1
  have s4 := ok_size 6 _ (tp_ok hq).2
  refine ev_of_wp (d := d55) rfl rfl (Nat.le_of_ble_eq_true rfl) ?_
  rw [newR, hp] at ip
  rw [newR, hq] at iq
  simp only [Option.isSome_some, if_true, opT] at ip iq
  rw [e2] at ip ⊢
  rw [e3] at iq ⊢
  obtain ⟨kt, lt, rfl⟩ := mk_at t
  obtain ⟨ka, la, rfl⟩ := mk_at a
  obtain ⟨ko, lo, rfl⟩ := mk_at o
  obtain ⟨ka2, la2, rfl⟩ := mk_at a2
  obtain ⟨ko2, lo2, rfl⟩ := mk_at o2
  have hA := f17_ok (pr (.mk ka la) (.mk ka2 la2)) (by rw [pr_size]; omega)
  have hO := f17_ok (pr (.mk ko lo) (.mk ko2 lo2)) (by rw [pr_size]; omega)
  obtain ⟨na, ka', pa, rfl⟩ := cmk_at p
  obtain ⟨nb, kb', pb, rfl⟩ := cmk_at q
  have w1 : IntKind.i64.wrap 1 = 1 := by decide
  have w2 : IntKind.i64.wrap 2 = 2 := by decide
  simp only [go_sem, ↓reduceIte, Nat.reduceLT, Nat.reduceEqDiff, Nat.reduceAdd, Nat.reduceMul, Nat.reduceLeDiff, Nat.reduceBEq, Nat.reduceSub, Int.reduceLT, Int.reduceLE, Int.reduceEq, Int.reduceToNat, reduceCtorEq, Nat.lt_irrefl, Nat.le_refl, d55, c55, Co.t, Co.row, obO, Co.rows, Ty.kind, Ty.args]
  rw [Wk.wp_loop]
  simp only [go_sem, ↓reduceIte, Nat.reduceLT, Nat.reduceEqDiff, Nat.reduceAdd, Nat.reduceMul, Nat.reduceLeDiff, Nat.reduceBEq, Nat.reduceSub, Int.reduceLT, Int.reduceLE, Int.reduceEq, Int.reduceToNat, reduceCtorEq, Nat.lt_irrefl, Nat.le_refl, Co.row, ncast0, ncast2]
  refine call0 (ip) (by rfl) (by rfl) (by rfl) (by rfl) ?_
  simp only [go_sem, ↓reduceIte, Nat.reduceLT, Nat.reduceEqDiff, Nat.reduceAdd, Nat.reduceMul, Nat.reduceLeDiff, Nat.reduceBEq, Nat.reduceSub, Int.reduceLT, Int.reduceLE, Int.reduceEq, Int.reduceToNat, reduceCtorEq, Nat.lt_irrefl, Nat.le_refl, opRow, Ty.row, appEsl, okB (n := 0 + 1) (b := 8) (by omega), okB (n := 0 + 1) (b := 32) (by omega)]
  rw [Wk.wp_loop]
  simp only [go_sem, ↓reduceIte, Nat.reduceLT, Nat.reduceEqDiff, Nat.reduceAdd, Nat.reduceMul, Nat.reduceLeDiff, Nat.reduceBEq, Nat.reduceSub, Int.reduceLT, Int.reduceLE, Int.reduceEq, Int.reduceToNat, reduceCtorEq, Nat.lt_irrefl, Nat.le_refl, Co.row, ncast0, ncast2, w1, Int.reduceAdd]
  refine call0 (iq) (by rfl) (by rfl) (by rfl) (by rfl) ?_
  simp only [go_sem, ↓reduceIte, Nat.reduceLT, Nat.reduceEqDiff, Nat.reduceAdd, Nat.reduceMul, Nat.reduceLeDiff, Nat.reduceBEq, Nat.reduceSub, Int.reduceLT, Int.reduceLE, Int.reduceEq, Int.reduceToNat, reduceCtorEq, Nat.lt_irrefl, Nat.le_refl, opRow, Ty.row, appLin, okB (n := 0 + 1 + (0 + 1)) (b := 8) (by omega), okB (n := 0 + 1 + (0 + 1)) (b := 32) (by omega)]
  rw [Wk.wp_loop]
  simp only [go_sem, ↓reduceIte, Nat.reduceLT, Nat.reduceEqDiff, Nat.reduceAdd, Nat.reduceMul, Nat.reduceLeDiff, Nat.reduceBEq, Nat.reduceSub, Int.reduceLT, Int.reduceLE, Int.reduceEq, Int.reduceToNat, reduceCtorEq, Nat.lt_irrefl, Nat.le_refl, ncast0, ncast2, w1, w2, Int.reduceAdd]
  refine call0 (hA) (by rfl) (by rfl) (by rfl) (by rfl) ?_
  cases ha : Ty.ok 6 (pr (.mk ka la) (.mk ka2 la2)) with
  | false => simp only [go_sem, ↓reduceIte, Nat.reduceLT, Nat.reduceEqDiff, Nat.reduceAdd, Nat.reduceMul, Nat.reduceLeDiff, Nat.reduceBEq, Nat.reduceSub, Int.reduceLT, Int.reduceLE, Int.reduceEq, Int.reduceToNat, reduceCtorEq, Nat.lt_irrefl, Nat.le_refl, ha, Bool.false_eq_true, nilT]
  | true =>
    simp only [go_sem, ↓reduceIte, Nat.reduceLT, Nat.reduceEqDiff, Nat.reduceAdd, Nat.reduceMul, Nat.reduceLeDiff, Nat.reduceBEq, Nat.reduceSub, Int.reduceLT, Int.reduceLE, Int.reduceEq, Int.reduceToNat, reduceCtorEq, Nat.lt_irrefl, Nat.le_refl, ha]
    refine call0 (hO) (by rfl) (by rfl) (by rfl) (by rfl) ?_
    cases ho : Ty.ok 6 (pr (.mk ko lo) (.mk ko2 lo2)) with
    | false => simp only [go_sem, ↓reduceIte, Nat.reduceLT, Nat.reduceEqDiff, Nat.reduceAdd, Nat.reduceMul, Nat.reduceLeDiff, Nat.reduceBEq, Nat.reduceSub, Int.reduceLT, Int.reduceLE, Int.reduceEq, Int.reduceToNat, reduceCtorEq, Nat.lt_irrefl, Nat.le_refl, ho, Bool.false_eq_true, nilT]
    | true => simp only [go_sem, ↓reduceIte, Nat.reduceLT, Nat.reduceEqDiff, Nat.reduceAdd, Nat.reduceMul, Nat.reduceLeDiff, Nat.reduceBEq, Nat.reduceSub, Int.reduceLT, Int.reduceLE, Int.reduceEq, Int.reduceToNat, reduceCtorEq, Nat.lt_irrefl, Nat.le_refl, ho]

end

theorem chk_eq {a o : Ty} (h1 : a.ok 6 = true) (h2 : o.ok 6 = true) : chk (some (a, o)) = some (a, o) := by simp only [chk, h1, h2, if_true]

theorem rt_mono (d : Nat) : ∀ c : Co, c.rt d = true → c.rt (d + 1) = true := by
  induction d with
  | zero => intro c h; cases c; simp [Co.rt] at h
  | succ d ih =>
    intro c h
    obtain ⟨nm, k, ps, rfl⟩ := cmk_at c
    rw [rt_eq] at h ⊢
    by_cases h9 : nid nm = 9
    · rw [if_pos h9] at h ⊢
      simp only [Bool.and_eq_true, decide_eq_true_eq] at h ⊢
      refine ⟨h.1, ?_⟩
      have := h.2
      clear h
      induction ps with
      | nil => rfl
      | cons p ps ihp =>
        simp only [Co.rts, Bool.and_eq_true] at this ⊢
        exact ⟨ih p this.1, ihp this.2⟩
    · rw [if_neg h9] at h ⊢
      exact h

theorem raw_cases {n : Nat} {t : Ty} : (∃ A O, raw n t = some (A, O) ∧ (A.ok 6 = true → t.ok 6 = true → O.ok 6 = true)) ∨ raw n t = none := by
  unfold raw
  repeat' split
  all_goals first
    | exact .inr rfl
    | exact .inl ⟨_, _, rfl, fun h1 h2 => by first | exact h1 | exact h2 | exact num_ok⟩

theorem f24_rt (d : Nat) : ∀ (c : Co) (t : Ty), c.rt d = true → c.rt 3 = true → t.ok 6 = true → Ev E false 24 [c.t, t.t] [] (newR c t) [] := by
  induction d with
  | zero => intro c t h; cases c; simp [Co.rt] at h
  | succ d ih =>
  intro c t hc hc3 ht
  have hts := ok_size 6 t ht
  have h17 := f17_ok t (by omega)
  have h54 := f54_ok 3 c (by omega)
  obtain ⟨nm, k, ps, rfl⟩ := cmk_at c
  obtain ⟨hn, hps, hbo⟩ := rt_name hc
  rw [hc3] at h54
  rw [ht] at h17
  simp only [if_true] at h17
  obtain ⟨kt, lt, rfl⟩ := mk_at t
  have h14 := f14_ok (k := kt) (l := lt) (by omega)
  rw [ht] at h14
  simp only [if_true] at h14
  refine ev_of_wp (d := d24) rfl rfl (Nat.le_of_ble_eq_true rfl) ?_
  by_cases h9 : nid nm = 9
  case neg =>
    obtain rfl := hps h9
    have e0 : Co.tp (.mk nm k []) (.mk kt lt) = chk (raw (nid nm) (.mk kt lt)) := by rw [tp_eq, if_neg h9]
    rw [newR, opT, op_eq, e0]
    rcases (show nid nm = 0 ∨ nid nm = 1 ∨ nid nm = 2 ∨ nid nm = 3 ∨ nid nm = 4 ∨ nid nm = 5 ∨ nid nm = 6 ∨ nid nm = 7 ∨ nid nm = 8 by omega) with h | h | h | h | h | h | h | h | h
    · rw [h]
      simp only [go_sem, ↓reduceIte, Nat.reduceLT, Nat.reduceEqDiff, Nat.reduceAdd, Nat.reduceMul, Nat.reduceLeDiff, Nat.reduceBEq, Nat.reduceSub, Int.reduceLT, Int.reduceLE, Int.reduceEq, Int.reduceToNat, reduceCtorEq, Nat.lt_irrefl, Nat.le_refl, d24, c24, Co.t, Co.row, Co.rows, Ty.t, Ty.row]
      refine call0 (h54) (by rfl) (by rfl) (by rfl) (by rfl) ?_
      simp only [go_sem, ↓reduceIte, Nat.reduceLT, Nat.reduceEqDiff, Nat.reduceAdd, Nat.reduceMul, Nat.reduceLeDiff, Nat.reduceBEq, Nat.reduceSub, Int.reduceLT, Int.reduceLE, Int.reduceEq, Int.reduceToNat, reduceCtorEq, Nat.lt_irrefl, Nat.le_refl]
      refine call0 (h17) (by rfl) (by rfl) (by rfl) (by rfl) ?_
      simp only [go_sem, ↓reduceIte, Nat.reduceLT, Nat.reduceEqDiff, Nat.reduceAdd, Nat.reduceMul, Nat.reduceLeDiff, Nat.reduceBEq, Nat.reduceSub, Int.reduceLT, Int.reduceLE, Int.reduceEq, Int.reduceToNat, reduceCtorEq, Nat.lt_irrefl, Nat.le_refl]
      refine call0 (h14) (by rfl) (by rfl) (by rfl) (by rfl) ?_
      have er : raw 0 (.mk kt lt) = some (num, num) := by simp [raw, Ty.kind]
      have hO : Ty.ok 6 (num) = true → Ty.ok 6 (num) = true := fun h => by first | exact h | exact num_ok
      have hA := f17_ok (num) (by first | omega | (simp only [num_size, pr_size, one_size]; omega))
      rw [er]
      simp only [go_sem, ↓reduceIte, Nat.reduceLT, Nat.reduceEqDiff, Nat.reduceAdd, Nat.reduceMul, Nat.reduceLeDiff, Nat.reduceBEq, Nat.reduceSub, Int.reduceLT, Int.reduceLE, Int.reduceEq, Int.reduceToNat, reduceCtorEq, Nat.lt_irrefl, Nat.le_refl, Ty.t, Ty.row, h]
      refine call0 (hA) (by rfl) (by rfl) (by rfl) (by rfl) ?_
      cases ha : Ty.ok 6 (num) with
      | false => simp only [go_sem, ↓reduceIte, Nat.reduceLT, Nat.reduceEqDiff, Nat.reduceAdd, Nat.reduceMul, Nat.reduceLeDiff, Nat.reduceBEq, Nat.reduceSub, Int.reduceLT, Int.reduceLE, Int.reduceEq, Int.reduceToNat, reduceCtorEq, Nat.lt_irrefl, Nat.le_refl, ha, chk, nilT, Option.isSome_none, Bool.false_eq_true]
      | true =>
        have ho := hO ha
        have ec := chk_eq ha ho
        simp only [go_sem, ↓reduceIte, Nat.reduceLT, Nat.reduceEqDiff, Nat.reduceAdd, Nat.reduceMul, Nat.reduceLeDiff, Nat.reduceBEq, Nat.reduceSub, Int.reduceLT, Int.reduceLE, Int.reduceEq, Int.reduceToNat, reduceCtorEq, Nat.lt_irrefl, Nat.le_refl, ec, Option.isSome_some, opRow, Ty.row, Co.ops]
        try simp only [go_sem, ↓reduceIte, Nat.reduceLT, Nat.reduceEqDiff, Nat.reduceAdd, Nat.reduceMul, Nat.reduceLeDiff, Nat.reduceBEq, Nat.reduceSub, Int.reduceLT, Int.reduceLE, Int.reduceEq, Int.reduceToNat, reduceCtorEq, Nat.lt_irrefl, Nat.le_refl, num, pr, Ty.row, Ty.rows]
    · rw [h]
      simp only [go_sem, ↓reduceIte, Nat.reduceLT, Nat.reduceEqDiff, Nat.reduceAdd, Nat.reduceMul, Nat.reduceLeDiff, Nat.reduceBEq, Nat.reduceSub, Int.reduceLT, Int.reduceLE, Int.reduceEq, Int.reduceToNat, reduceCtorEq, Nat.lt_irrefl, Nat.le_refl, d24, c24, Co.t, Co.row, Co.rows, Ty.t, Ty.row]
      refine call0 (h54) (by rfl) (by rfl) (by rfl) (by rfl) ?_
      simp only [go_sem, ↓reduceIte, Nat.reduceLT, Nat.reduceEqDiff, Nat.reduceAdd, Nat.reduceMul, Nat.reduceLeDiff, Nat.reduceBEq, Nat.reduceSub, Int.reduceLT, Int.reduceLE, Int.reduceEq, Int.reduceToNat, reduceCtorEq, Nat.lt_irrefl, Nat.le_refl]
      refine call0 (h17) (by rfl) (by rfl) (by rfl) (by rfl) ?_
      simp only [go_sem, ↓reduceIte, Nat.reduceLT, Nat.reduceEqDiff, Nat.reduceAdd, Nat.reduceMul, Nat.reduceLeDiff, Nat.reduceBEq, Nat.reduceSub, Int.reduceLT, Int.reduceLE, Int.reduceEq, Int.reduceToNat, reduceCtorEq, Nat.lt_irrefl, Nat.le_refl]
      refine call0 (h14) (by rfl) (by rfl) (by rfl) (by rfl) ?_
      by_cases hk : kt = 2
      case neg => simp only [go_sem, ↓reduceIte, Nat.reduceLT, Nat.reduceEqDiff, Nat.reduceAdd, Nat.reduceMul, Nat.reduceLeDiff, Nat.reduceBEq, Nat.reduceSub, Int.reduceLT, Int.reduceLE, Int.reduceEq, Int.reduceToNat, reduceCtorEq, Nat.lt_irrefl, Nat.le_refl, Ty.t, Ty.row, h, hk, raw, Ty.kind, chk, nilT, Option.isSome_none, Bool.false_eq_true]
      subst hk
      have er : raw 1 (.mk 2 lt) = some (num, num) := by simp [raw, Ty.kind]
      have hO : Ty.ok 6 (num) = true → Ty.ok 6 (num) = true := fun h => by first | exact h | exact num_ok
      have hA := f17_ok (num) (by first | omega | (simp only [num_size, pr_size, one_size]; omega))
      rw [er]
      simp only [go_sem, ↓reduceIte, Nat.reduceLT, Nat.reduceEqDiff, Nat.reduceAdd, Nat.reduceMul, Nat.reduceLeDiff, Nat.reduceBEq, Nat.reduceSub, Int.reduceLT, Int.reduceLE, Int.reduceEq, Int.reduceToNat, reduceCtorEq, Nat.lt_irrefl, Nat.le_refl, Ty.t, Ty.row, h]
      refine call0 (hA) (by rfl) (by rfl) (by rfl) (by rfl) ?_
      cases ha : Ty.ok 6 (num) with
      | false => simp only [go_sem, ↓reduceIte, Nat.reduceLT, Nat.reduceEqDiff, Nat.reduceAdd, Nat.reduceMul, Nat.reduceLeDiff, Nat.reduceBEq, Nat.reduceSub, Int.reduceLT, Int.reduceLE, Int.reduceEq, Int.reduceToNat, reduceCtorEq, Nat.lt_irrefl, Nat.le_refl, ha, chk, nilT, Option.isSome_none, Bool.false_eq_true]
      | true =>
        have ho := hO ha
        have ec := chk_eq ha ho
        simp only [go_sem, ↓reduceIte, Nat.reduceLT, Nat.reduceEqDiff, Nat.reduceAdd, Nat.reduceMul, Nat.reduceLeDiff, Nat.reduceBEq, Nat.reduceSub, Int.reduceLT, Int.reduceLE, Int.reduceEq, Int.reduceToNat, reduceCtorEq, Nat.lt_irrefl, Nat.le_refl, ec, Option.isSome_some, opRow, Ty.row, Co.ops]
        try simp only [go_sem, ↓reduceIte, Nat.reduceLT, Nat.reduceEqDiff, Nat.reduceAdd, Nat.reduceMul, Nat.reduceLeDiff, Nat.reduceBEq, Nat.reduceSub, Int.reduceLT, Int.reduceLE, Int.reduceEq, Int.reduceToNat, reduceCtorEq, Nat.lt_irrefl, Nat.le_refl, num, pr, Ty.row, Ty.rows]
    · rw [h]
      simp only [go_sem, ↓reduceIte, Nat.reduceLT, Nat.reduceEqDiff, Nat.reduceAdd, Nat.reduceMul, Nat.reduceLeDiff, Nat.reduceBEq, Nat.reduceSub, Int.reduceLT, Int.reduceLE, Int.reduceEq, Int.reduceToNat, reduceCtorEq, Nat.lt_irrefl, Nat.le_refl, d24, c24, Co.t, Co.row, Co.rows, Ty.t, Ty.row]
      refine call0 (h54) (by rfl) (by rfl) (by rfl) (by rfl) ?_
      simp only [go_sem, ↓reduceIte, Nat.reduceLT, Nat.reduceEqDiff, Nat.reduceAdd, Nat.reduceMul, Nat.reduceLeDiff, Nat.reduceBEq, Nat.reduceSub, Int.reduceLT, Int.reduceLE, Int.reduceEq, Int.reduceToNat, reduceCtorEq, Nat.lt_irrefl, Nat.le_refl]
      refine call0 (h17) (by rfl) (by rfl) (by rfl) (by rfl) ?_
      simp only [go_sem, ↓reduceIte, Nat.reduceLT, Nat.reduceEqDiff, Nat.reduceAdd, Nat.reduceMul, Nat.reduceLeDiff, Nat.reduceBEq, Nat.reduceSub, Int.reduceLT, Int.reduceLE, Int.reduceEq, Int.reduceToNat, reduceCtorEq, Nat.lt_irrefl, Nat.le_refl]
      refine call0 (h14) (by rfl) (by rfl) (by rfl) (by rfl) ?_
      by_cases hk : kt = 2
      case neg => simp only [go_sem, ↓reduceIte, Nat.reduceLT, Nat.reduceEqDiff, Nat.reduceAdd, Nat.reduceMul, Nat.reduceLeDiff, Nat.reduceBEq, Nat.reduceSub, Int.reduceLT, Int.reduceLE, Int.reduceEq, Int.reduceToNat, reduceCtorEq, Nat.lt_irrefl, Nat.le_refl, Ty.t, Ty.row, h, hk, raw, Ty.kind, chk, nilT, Option.isSome_none, Bool.false_eq_true]
      subst hk
      have er : raw 2 (.mk 2 lt) = some (pr num num, num) := by simp [raw, Ty.kind]
      have hO : Ty.ok 6 (pr num num) = true → Ty.ok 6 (num) = true := fun h => by first | exact h | exact num_ok
      have hA := f17_ok (pr num num) (by first | omega | (simp only [num_size, pr_size, one_size]; omega))
      rw [er]
      simp only [go_sem, ↓reduceIte, Nat.reduceLT, Nat.reduceEqDiff, Nat.reduceAdd, Nat.reduceMul, Nat.reduceLeDiff, Nat.reduceBEq, Nat.reduceSub, Int.reduceLT, Int.reduceLE, Int.reduceEq, Int.reduceToNat, reduceCtorEq, Nat.lt_irrefl, Nat.le_refl, Ty.t, Ty.row, h]
      refine call0 (hA) (by rfl) (by rfl) (by rfl) (by rfl) ?_
      cases ha : Ty.ok 6 (pr num num) with
      | false => simp only [go_sem, ↓reduceIte, Nat.reduceLT, Nat.reduceEqDiff, Nat.reduceAdd, Nat.reduceMul, Nat.reduceLeDiff, Nat.reduceBEq, Nat.reduceSub, Int.reduceLT, Int.reduceLE, Int.reduceEq, Int.reduceToNat, reduceCtorEq, Nat.lt_irrefl, Nat.le_refl, ha, chk, nilT, Option.isSome_none, Bool.false_eq_true]
      | true =>
        have ho := hO ha
        have ec := chk_eq ha ho
        simp only [go_sem, ↓reduceIte, Nat.reduceLT, Nat.reduceEqDiff, Nat.reduceAdd, Nat.reduceMul, Nat.reduceLeDiff, Nat.reduceBEq, Nat.reduceSub, Int.reduceLT, Int.reduceLE, Int.reduceEq, Int.reduceToNat, reduceCtorEq, Nat.lt_irrefl, Nat.le_refl, ec, Option.isSome_some, opRow, Ty.row, Co.ops]
        try simp only [go_sem, ↓reduceIte, Nat.reduceLT, Nat.reduceEqDiff, Nat.reduceAdd, Nat.reduceMul, Nat.reduceLeDiff, Nat.reduceBEq, Nat.reduceSub, Int.reduceLT, Int.reduceLE, Int.reduceEq, Int.reduceToNat, reduceCtorEq, Nat.lt_irrefl, Nat.le_refl, num, pr, Ty.row, Ty.rows]
    · rw [h]
      simp only [go_sem, ↓reduceIte, Nat.reduceLT, Nat.reduceEqDiff, Nat.reduceAdd, Nat.reduceMul, Nat.reduceLeDiff, Nat.reduceBEq, Nat.reduceSub, Int.reduceLT, Int.reduceLE, Int.reduceEq, Int.reduceToNat, reduceCtorEq, Nat.lt_irrefl, Nat.le_refl, d24, c24, Co.t, Co.row, Co.rows, Ty.t, Ty.row]
      refine call0 (h54) (by rfl) (by rfl) (by rfl) (by rfl) ?_
      simp only [go_sem, ↓reduceIte, Nat.reduceLT, Nat.reduceEqDiff, Nat.reduceAdd, Nat.reduceMul, Nat.reduceLeDiff, Nat.reduceBEq, Nat.reduceSub, Int.reduceLT, Int.reduceLE, Int.reduceEq, Int.reduceToNat, reduceCtorEq, Nat.lt_irrefl, Nat.le_refl]
      refine call0 (h17) (by rfl) (by rfl) (by rfl) (by rfl) ?_
      simp only [go_sem, ↓reduceIte, Nat.reduceLT, Nat.reduceEqDiff, Nat.reduceAdd, Nat.reduceMul, Nat.reduceLeDiff, Nat.reduceBEq, Nat.reduceSub, Int.reduceLT, Int.reduceLE, Int.reduceEq, Int.reduceToNat, reduceCtorEq, Nat.lt_irrefl, Nat.le_refl]
      refine call0 (h14) (by rfl) (by rfl) (by rfl) (by rfl) ?_
      by_cases hk : kt = 5
      case neg => simp only [go_sem, ↓reduceIte, Nat.reduceLT, Nat.reduceEqDiff, Nat.reduceAdd, Nat.reduceMul, Nat.reduceLeDiff, Nat.reduceBEq, Nat.reduceSub, Int.reduceLT, Int.reduceLE, Int.reduceEq, Int.reduceToNat, reduceCtorEq, Nat.lt_irrefl, Nat.le_refl, Ty.t, Ty.row, h, hk, raw, Ty.kind, chk, nilT, Option.isSome_none, Bool.false_eq_true]
      subst hk
      have er : raw 3 (.mk 5 lt) = some (.mk 5 lt, .mk 5 lt) := by simp [raw, Ty.kind]
      have hO : Ty.ok 6 (.mk 5 lt) = true → Ty.ok 6 (.mk 5 lt) = true := fun h => by first | exact h | exact num_ok
      have hA := f17_ok (.mk 5 lt) (by first | omega | (simp only [num_size, pr_size, one_size]; omega))
      rw [er]
      simp only [go_sem, ↓reduceIte, Nat.reduceLT, Nat.reduceEqDiff, Nat.reduceAdd, Nat.reduceMul, Nat.reduceLeDiff, Nat.reduceBEq, Nat.reduceSub, Int.reduceLT, Int.reduceLE, Int.reduceEq, Int.reduceToNat, reduceCtorEq, Nat.lt_irrefl, Nat.le_refl, Ty.t, Ty.row, h]
      refine call0 (hA) (by rfl) (by rfl) (by rfl) (by rfl) ?_
      cases ha : Ty.ok 6 (.mk 5 lt) with
      | false => simp only [go_sem, ↓reduceIte, Nat.reduceLT, Nat.reduceEqDiff, Nat.reduceAdd, Nat.reduceMul, Nat.reduceLeDiff, Nat.reduceBEq, Nat.reduceSub, Int.reduceLT, Int.reduceLE, Int.reduceEq, Int.reduceToNat, reduceCtorEq, Nat.lt_irrefl, Nat.le_refl, ha, chk, nilT, Option.isSome_none, Bool.false_eq_true]
      | true =>
        have ho := hO ha
        have ec := chk_eq ha ho
        simp only [go_sem, ↓reduceIte, Nat.reduceLT, Nat.reduceEqDiff, Nat.reduceAdd, Nat.reduceMul, Nat.reduceLeDiff, Nat.reduceBEq, Nat.reduceSub, Int.reduceLT, Int.reduceLE, Int.reduceEq, Int.reduceToNat, reduceCtorEq, Nat.lt_irrefl, Nat.le_refl, ec, Option.isSome_some, opRow, Ty.row, Co.ops]
        try simp only [go_sem, ↓reduceIte, Nat.reduceLT, Nat.reduceEqDiff, Nat.reduceAdd, Nat.reduceMul, Nat.reduceLeDiff, Nat.reduceBEq, Nat.reduceSub, Int.reduceLT, Int.reduceLE, Int.reduceEq, Int.reduceToNat, reduceCtorEq, Nat.lt_irrefl, Nat.le_refl, num, pr, Ty.row, Ty.rows]
    · rw [h]
      simp only [go_sem, ↓reduceIte, Nat.reduceLT, Nat.reduceEqDiff, Nat.reduceAdd, Nat.reduceMul, Nat.reduceLeDiff, Nat.reduceBEq, Nat.reduceSub, Int.reduceLT, Int.reduceLE, Int.reduceEq, Int.reduceToNat, reduceCtorEq, Nat.lt_irrefl, Nat.le_refl, d24, c24, Co.t, Co.row, Co.rows, Ty.t, Ty.row]
      refine call0 (h54) (by rfl) (by rfl) (by rfl) (by rfl) ?_
      simp only [go_sem, ↓reduceIte, Nat.reduceLT, Nat.reduceEqDiff, Nat.reduceAdd, Nat.reduceMul, Nat.reduceLeDiff, Nat.reduceBEq, Nat.reduceSub, Int.reduceLT, Int.reduceLE, Int.reduceEq, Int.reduceToNat, reduceCtorEq, Nat.lt_irrefl, Nat.le_refl]
      refine call0 (h17) (by rfl) (by rfl) (by rfl) (by rfl) ?_
      simp only [go_sem, ↓reduceIte, Nat.reduceLT, Nat.reduceEqDiff, Nat.reduceAdd, Nat.reduceMul, Nat.reduceLeDiff, Nat.reduceBEq, Nat.reduceSub, Int.reduceLT, Int.reduceLE, Int.reduceEq, Int.reduceToNat, reduceCtorEq, Nat.lt_irrefl, Nat.le_refl]
      refine call0 (h14) (by rfl) (by rfl) (by rfl) (by rfl) ?_
      have er : raw 4 (.mk kt lt) = some (.mk 9 [.mk kt lt], .mk 9 [.mk kt lt]) := by simp [raw, Ty.kind]
      have hO : Ty.ok 6 (.mk 9 [.mk kt lt]) = true → Ty.ok 6 (.mk 9 [.mk kt lt]) = true := fun h => by first | exact h | exact num_ok
      have hA := f17_ok (.mk 9 [.mk kt lt]) (by first | omega | (simp only [num_size, pr_size, one_size]; omega))
      rw [er]
      simp only [go_sem, ↓reduceIte, Nat.reduceLT, Nat.reduceEqDiff, Nat.reduceAdd, Nat.reduceMul, Nat.reduceLeDiff, Nat.reduceBEq, Nat.reduceSub, Int.reduceLT, Int.reduceLE, Int.reduceEq, Int.reduceToNat, reduceCtorEq, Nat.lt_irrefl, Nat.le_refl, Ty.t, Ty.row, h]
      refine call0 (hA) (by rfl) (by rfl) (by rfl) (by rfl) ?_
      cases ha : Ty.ok 6 (.mk 9 [.mk kt lt]) with
      | false => simp only [go_sem, ↓reduceIte, Nat.reduceLT, Nat.reduceEqDiff, Nat.reduceAdd, Nat.reduceMul, Nat.reduceLeDiff, Nat.reduceBEq, Nat.reduceSub, Int.reduceLT, Int.reduceLE, Int.reduceEq, Int.reduceToNat, reduceCtorEq, Nat.lt_irrefl, Nat.le_refl, ha, chk, nilT, Option.isSome_none, Bool.false_eq_true]
      | true =>
        have ho := hO ha
        have ec := chk_eq ha ho
        simp only [go_sem, ↓reduceIte, Nat.reduceLT, Nat.reduceEqDiff, Nat.reduceAdd, Nat.reduceMul, Nat.reduceLeDiff, Nat.reduceBEq, Nat.reduceSub, Int.reduceLT, Int.reduceLE, Int.reduceEq, Int.reduceToNat, reduceCtorEq, Nat.lt_irrefl, Nat.le_refl, ec, Option.isSome_some, opRow, Ty.row, Co.ops]
        try simp only [go_sem, ↓reduceIte, Nat.reduceLT, Nat.reduceEqDiff, Nat.reduceAdd, Nat.reduceMul, Nat.reduceLeDiff, Nat.reduceBEq, Nat.reduceSub, Int.reduceLT, Int.reduceLE, Int.reduceEq, Int.reduceToNat, reduceCtorEq, Nat.lt_irrefl, Nat.le_refl, num, pr, Ty.row, Ty.rows]
    · rw [h]
      simp only [go_sem, ↓reduceIte, Nat.reduceLT, Nat.reduceEqDiff, Nat.reduceAdd, Nat.reduceMul, Nat.reduceLeDiff, Nat.reduceBEq, Nat.reduceSub, Int.reduceLT, Int.reduceLE, Int.reduceEq, Int.reduceToNat, reduceCtorEq, Nat.lt_irrefl, Nat.le_refl, d24, c24, Co.t, Co.row, Co.rows, Ty.t, Ty.row]
      refine call0 (h54) (by rfl) (by rfl) (by rfl) (by rfl) ?_
      simp only [go_sem, ↓reduceIte, Nat.reduceLT, Nat.reduceEqDiff, Nat.reduceAdd, Nat.reduceMul, Nat.reduceLeDiff, Nat.reduceBEq, Nat.reduceSub, Int.reduceLT, Int.reduceLE, Int.reduceEq, Int.reduceToNat, reduceCtorEq, Nat.lt_irrefl, Nat.le_refl]
      refine call0 (h17) (by rfl) (by rfl) (by rfl) (by rfl) ?_
      simp only [go_sem, ↓reduceIte, Nat.reduceLT, Nat.reduceEqDiff, Nat.reduceAdd, Nat.reduceMul, Nat.reduceLeDiff, Nat.reduceBEq, Nat.reduceSub, Int.reduceLT, Int.reduceLE, Int.reduceEq, Int.reduceToNat, reduceCtorEq, Nat.lt_irrefl, Nat.le_refl]
      refine call0 (h14) (by rfl) (by rfl) (by rfl) (by rfl) ?_
      have er : raw 5 (.mk kt lt) = some (.mk 9 [.mk kt lt], .mk 9 [.mk kt lt]) := by simp [raw, Ty.kind]
      have hO : Ty.ok 6 (.mk 9 [.mk kt lt]) = true → Ty.ok 6 (.mk 9 [.mk kt lt]) = true := fun h => by first | exact h | exact num_ok
      have hA := f17_ok (.mk 9 [.mk kt lt]) (by first | omega | (simp only [num_size, pr_size, one_size]; omega))
      rw [er]
      simp only [go_sem, ↓reduceIte, Nat.reduceLT, Nat.reduceEqDiff, Nat.reduceAdd, Nat.reduceMul, Nat.reduceLeDiff, Nat.reduceBEq, Nat.reduceSub, Int.reduceLT, Int.reduceLE, Int.reduceEq, Int.reduceToNat, reduceCtorEq, Nat.lt_irrefl, Nat.le_refl, Ty.t, Ty.row, h]
      refine call0 (hA) (by rfl) (by rfl) (by rfl) (by rfl) ?_
      cases ha : Ty.ok 6 (.mk 9 [.mk kt lt]) with
      | false => simp only [go_sem, ↓reduceIte, Nat.reduceLT, Nat.reduceEqDiff, Nat.reduceAdd, Nat.reduceMul, Nat.reduceLeDiff, Nat.reduceBEq, Nat.reduceSub, Int.reduceLT, Int.reduceLE, Int.reduceEq, Int.reduceToNat, reduceCtorEq, Nat.lt_irrefl, Nat.le_refl, ha, chk, nilT, Option.isSome_none, Bool.false_eq_true]
      | true =>
        have ho := hO ha
        have ec := chk_eq ha ho
        simp only [go_sem, ↓reduceIte, Nat.reduceLT, Nat.reduceEqDiff, Nat.reduceAdd, Nat.reduceMul, Nat.reduceLeDiff, Nat.reduceBEq, Nat.reduceSub, Int.reduceLT, Int.reduceLE, Int.reduceEq, Int.reduceToNat, reduceCtorEq, Nat.lt_irrefl, Nat.le_refl, ec, Option.isSome_some, opRow, Ty.row, Co.ops]
        try simp only [go_sem, ↓reduceIte, Nat.reduceLT, Nat.reduceEqDiff, Nat.reduceAdd, Nat.reduceMul, Nat.reduceLeDiff, Nat.reduceBEq, Nat.reduceSub, Int.reduceLT, Int.reduceLE, Int.reduceEq, Int.reduceToNat, reduceCtorEq, Nat.lt_irrefl, Nat.le_refl, num, pr, Ty.row, Ty.rows]
    · rw [h]
      simp only [go_sem, ↓reduceIte, Nat.reduceLT, Nat.reduceEqDiff, Nat.reduceAdd, Nat.reduceMul, Nat.reduceLeDiff, Nat.reduceBEq, Nat.reduceSub, Int.reduceLT, Int.reduceLE, Int.reduceEq, Int.reduceToNat, reduceCtorEq, Nat.lt_irrefl, Nat.le_refl, d24, c24, Co.t, Co.row, Co.rows, Ty.t, Ty.row]
      refine call0 (h54) (by rfl) (by rfl) (by rfl) (by rfl) ?_
      simp only [go_sem, ↓reduceIte, Nat.reduceLT, Nat.reduceEqDiff, Nat.reduceAdd, Nat.reduceMul, Nat.reduceLeDiff, Nat.reduceBEq, Nat.reduceSub, Int.reduceLT, Int.reduceLE, Int.reduceEq, Int.reduceToNat, reduceCtorEq, Nat.lt_irrefl, Nat.le_refl]
      refine call0 (h17) (by rfl) (by rfl) (by rfl) (by rfl) ?_
      simp only [go_sem, ↓reduceIte, Nat.reduceLT, Nat.reduceEqDiff, Nat.reduceAdd, Nat.reduceMul, Nat.reduceLeDiff, Nat.reduceBEq, Nat.reduceSub, Int.reduceLT, Int.reduceLE, Int.reduceEq, Int.reduceToNat, reduceCtorEq, Nat.lt_irrefl, Nat.le_refl]
      refine call0 (h14) (by rfl) (by rfl) (by rfl) (by rfl) ?_
      have er : raw 6 (.mk kt lt) = some (.mk 7 [.mk kt lt], .mk 7 [.mk kt lt]) := by simp [raw, Ty.kind]
      have hO : Ty.ok 6 (.mk 7 [.mk kt lt]) = true → Ty.ok 6 (.mk 7 [.mk kt lt]) = true := fun h => by first | exact h | exact num_ok
      have hA := f17_ok (.mk 7 [.mk kt lt]) (by first | omega | (simp only [num_size, pr_size, one_size]; omega))
      rw [er]
      simp only [go_sem, ↓reduceIte, Nat.reduceLT, Nat.reduceEqDiff, Nat.reduceAdd, Nat.reduceMul, Nat.reduceLeDiff, Nat.reduceBEq, Nat.reduceSub, Int.reduceLT, Int.reduceLE, Int.reduceEq, Int.reduceToNat, reduceCtorEq, Nat.lt_irrefl, Nat.le_refl, Ty.t, Ty.row, h]
      refine call0 (hA) (by rfl) (by rfl) (by rfl) (by rfl) ?_
      cases ha : Ty.ok 6 (.mk 7 [.mk kt lt]) with
      | false => simp only [go_sem, ↓reduceIte, Nat.reduceLT, Nat.reduceEqDiff, Nat.reduceAdd, Nat.reduceMul, Nat.reduceLeDiff, Nat.reduceBEq, Nat.reduceSub, Int.reduceLT, Int.reduceLE, Int.reduceEq, Int.reduceToNat, reduceCtorEq, Nat.lt_irrefl, Nat.le_refl, ha, chk, nilT, Option.isSome_none, Bool.false_eq_true]
      | true =>
        have ho := hO ha
        have ec := chk_eq ha ho
        simp only [go_sem, ↓reduceIte, Nat.reduceLT, Nat.reduceEqDiff, Nat.reduceAdd, Nat.reduceMul, Nat.reduceLeDiff, Nat.reduceBEq, Nat.reduceSub, Int.reduceLT, Int.reduceLE, Int.reduceEq, Int.reduceToNat, reduceCtorEq, Nat.lt_irrefl, Nat.le_refl, ec, Option.isSome_some, opRow, Ty.row, Co.ops]
        try simp only [go_sem, ↓reduceIte, Nat.reduceLT, Nat.reduceEqDiff, Nat.reduceAdd, Nat.reduceMul, Nat.reduceLeDiff, Nat.reduceBEq, Nat.reduceSub, Int.reduceLT, Int.reduceLE, Int.reduceEq, Int.reduceToNat, reduceCtorEq, Nat.lt_irrefl, Nat.le_refl, num, pr, Ty.row, Ty.rows]
    · rw [h]
      simp only [go_sem, ↓reduceIte, Nat.reduceLT, Nat.reduceEqDiff, Nat.reduceAdd, Nat.reduceMul, Nat.reduceLeDiff, Nat.reduceBEq, Nat.reduceSub, Int.reduceLT, Int.reduceLE, Int.reduceEq, Int.reduceToNat, reduceCtorEq, Nat.lt_irrefl, Nat.le_refl, d24, c24, Co.t, Co.row, Co.rows, Ty.t, Ty.row]
      refine call0 (h54) (by rfl) (by rfl) (by rfl) (by rfl) ?_
      simp only [go_sem, ↓reduceIte, Nat.reduceLT, Nat.reduceEqDiff, Nat.reduceAdd, Nat.reduceMul, Nat.reduceLeDiff, Nat.reduceBEq, Nat.reduceSub, Int.reduceLT, Int.reduceLE, Int.reduceEq, Int.reduceToNat, reduceCtorEq, Nat.lt_irrefl, Nat.le_refl]
      refine call0 (h17) (by rfl) (by rfl) (by rfl) (by rfl) ?_
      simp only [go_sem, ↓reduceIte, Nat.reduceLT, Nat.reduceEqDiff, Nat.reduceAdd, Nat.reduceMul, Nat.reduceLeDiff, Nat.reduceBEq, Nat.reduceSub, Int.reduceLT, Int.reduceLE, Int.reduceEq, Int.reduceToNat, reduceCtorEq, Nat.lt_irrefl, Nat.le_refl]
      refine call0 (h14) (by rfl) (by rfl) (by rfl) (by rfl) ?_
      have er : raw 7 (.mk kt lt) = some (.mk 7 [.mk kt lt], .mk 7 [.mk kt lt]) := by simp [raw, Ty.kind]
      have hO : Ty.ok 6 (.mk 7 [.mk kt lt]) = true → Ty.ok 6 (.mk 7 [.mk kt lt]) = true := fun h => by first | exact h | exact num_ok
      have hA := f17_ok (.mk 7 [.mk kt lt]) (by first | omega | (simp only [num_size, pr_size, one_size]; omega))
      rw [er]
      simp only [go_sem, ↓reduceIte, Nat.reduceLT, Nat.reduceEqDiff, Nat.reduceAdd, Nat.reduceMul, Nat.reduceLeDiff, Nat.reduceBEq, Nat.reduceSub, Int.reduceLT, Int.reduceLE, Int.reduceEq, Int.reduceToNat, reduceCtorEq, Nat.lt_irrefl, Nat.le_refl, Ty.t, Ty.row, h]
      refine call0 (hA) (by rfl) (by rfl) (by rfl) (by rfl) ?_
      cases ha : Ty.ok 6 (.mk 7 [.mk kt lt]) with
      | false => simp only [go_sem, ↓reduceIte, Nat.reduceLT, Nat.reduceEqDiff, Nat.reduceAdd, Nat.reduceMul, Nat.reduceLeDiff, Nat.reduceBEq, Nat.reduceSub, Int.reduceLT, Int.reduceLE, Int.reduceEq, Int.reduceToNat, reduceCtorEq, Nat.lt_irrefl, Nat.le_refl, ha, chk, nilT, Option.isSome_none, Bool.false_eq_true]
      | true =>
        have ho := hO ha
        have ec := chk_eq ha ho
        simp only [go_sem, ↓reduceIte, Nat.reduceLT, Nat.reduceEqDiff, Nat.reduceAdd, Nat.reduceMul, Nat.reduceLeDiff, Nat.reduceBEq, Nat.reduceSub, Int.reduceLT, Int.reduceLE, Int.reduceEq, Int.reduceToNat, reduceCtorEq, Nat.lt_irrefl, Nat.le_refl, ec, Option.isSome_some, opRow, Ty.row, Co.ops]
        try simp only [go_sem, ↓reduceIte, Nat.reduceLT, Nat.reduceEqDiff, Nat.reduceAdd, Nat.reduceMul, Nat.reduceLeDiff, Nat.reduceBEq, Nat.reduceSub, Int.reduceLT, Int.reduceLE, Int.reduceEq, Int.reduceToNat, reduceCtorEq, Nat.lt_irrefl, Nat.le_refl, num, pr, Ty.row, Ty.rows]
    · rw [h]
      simp only [go_sem, ↓reduceIte, Nat.reduceLT, Nat.reduceEqDiff, Nat.reduceAdd, Nat.reduceMul, Nat.reduceLeDiff, Nat.reduceBEq, Nat.reduceSub, Int.reduceLT, Int.reduceLE, Int.reduceEq, Int.reduceToNat, reduceCtorEq, Nat.lt_irrefl, Nat.le_refl, d24, c24, Co.t, Co.row, Co.rows, Ty.t, Ty.row]
      refine call0 (h54) (by rfl) (by rfl) (by rfl) (by rfl) ?_
      simp only [go_sem, ↓reduceIte, Nat.reduceLT, Nat.reduceEqDiff, Nat.reduceAdd, Nat.reduceMul, Nat.reduceLeDiff, Nat.reduceBEq, Nat.reduceSub, Int.reduceLT, Int.reduceLE, Int.reduceEq, Int.reduceToNat, reduceCtorEq, Nat.lt_irrefl, Nat.le_refl]
      refine call0 (h17) (by rfl) (by rfl) (by rfl) (by rfl) ?_
      simp only [go_sem, ↓reduceIte, Nat.reduceLT, Nat.reduceEqDiff, Nat.reduceAdd, Nat.reduceMul, Nat.reduceLeDiff, Nat.reduceBEq, Nat.reduceSub, Int.reduceLT, Int.reduceLE, Int.reduceEq, Int.reduceToNat, reduceCtorEq, Nat.lt_irrefl, Nat.le_refl]
      refine call0 (h14) (by rfl) (by rfl) (by rfl) (by rfl) ?_
      have er : raw 8 (.mk kt lt) = some (.mk 7 [.mk kt lt], .mk 7 [.mk kt lt]) := by simp [raw, Ty.kind]
      have hO : Ty.ok 6 (.mk 7 [.mk kt lt]) = true → Ty.ok 6 (.mk 7 [.mk kt lt]) = true := fun h => by first | exact h | exact num_ok
      have hA := f17_ok (.mk 7 [.mk kt lt]) (by first | omega | (simp only [num_size, pr_size, one_size]; omega))
      rw [er]
      simp only [go_sem, ↓reduceIte, Nat.reduceLT, Nat.reduceEqDiff, Nat.reduceAdd, Nat.reduceMul, Nat.reduceLeDiff, Nat.reduceBEq, Nat.reduceSub, Int.reduceLT, Int.reduceLE, Int.reduceEq, Int.reduceToNat, reduceCtorEq, Nat.lt_irrefl, Nat.le_refl, Ty.t, Ty.row, h]
      refine call0 (hA) (by rfl) (by rfl) (by rfl) (by rfl) ?_
      cases ha : Ty.ok 6 (.mk 7 [.mk kt lt]) with
      | false => simp only [go_sem, ↓reduceIte, Nat.reduceLT, Nat.reduceEqDiff, Nat.reduceAdd, Nat.reduceMul, Nat.reduceLeDiff, Nat.reduceBEq, Nat.reduceSub, Int.reduceLT, Int.reduceLE, Int.reduceEq, Int.reduceToNat, reduceCtorEq, Nat.lt_irrefl, Nat.le_refl, ha, chk, nilT, Option.isSome_none, Bool.false_eq_true]
      | true =>
        have ho := hO ha
        have ec := chk_eq ha ho
        simp only [go_sem, ↓reduceIte, Nat.reduceLT, Nat.reduceEqDiff, Nat.reduceAdd, Nat.reduceMul, Nat.reduceLeDiff, Nat.reduceBEq, Nat.reduceSub, Int.reduceLT, Int.reduceLE, Int.reduceEq, Int.reduceToNat, reduceCtorEq, Nat.lt_irrefl, Nat.le_refl, ec, Option.isSome_some, opRow, Ty.row, Co.ops]
        try simp only [go_sem, ↓reduceIte, Nat.reduceLT, Nat.reduceEqDiff, Nat.reduceAdd, Nat.reduceMul, Nat.reduceLeDiff, Nat.reduceBEq, Nat.reduceSub, Int.reduceLT, Int.reduceLE, Int.reduceEq, Int.reduceToNat, reduceCtorEq, Nat.lt_irrefl, Nat.le_refl, num, pr, Ty.row, Ty.rows]
  obtain ⟨a, b, d', hd', rfl, rfl, ha, hb⟩ := hbo h9
  obtain rfl : d = d' := by omega
  obtain ⟨_, _, hb3⟩ := rt_name hc3
  obtain ⟨a', b', d3, hd3, e3, _, ha3, hb3⟩ := hb3 h9
  obtain rfl : d3 = 2 := by omega
  simp only [List.cons.injEq, and_true] at e3
  obtain ⟨rfl, rfl⟩ := e3
  have ia := ih a (.mk kt lt) ha (rt_mono 2 a ha3) ht
  have ib := ih b (.mk kt lt) hb (rt_mono 2 b hb3) ht
  have e0 : Co.tp (.mk nm 0 [a, b]) (.mk kt lt) = chk (two [a.tp (.mk kt lt), b.tp (.mk kt lt)]) := by rw [tp_eq, if_pos h9]; rfl
  obtain ⟨na, ka, pa, hea⟩ := cmk_at a
  obtain ⟨nb, kb, pb, heb⟩ := cmk_at b
  have hrows : Co.rows [a, b] = [[.s (.string na), .s (.int .i64 ka), .sl (Co.rows pa)], [.s (.string nb), .s (.int .i64 kb), .sl (Co.rows pb)]] := by rw [hea, heb]; rfl
  simp only [go_sem, ↓reduceIte, Nat.reduceLT, Nat.reduceEqDiff, Nat.reduceAdd, Nat.reduceMul, Nat.reduceLeDiff, Nat.reduceBEq, Nat.reduceSub, Int.reduceLT, Int.reduceLE, Int.reduceEq, Int.reduceToNat, reduceCtorEq, Nat.lt_irrefl, Nat.le_refl, d24, c24, Co.t, Co.row, Ty.t, Ty.row]
  refine call0 (h54) (by rfl) (by rfl) (by rfl) (by rfl) ?_
  simp only [go_sem, ↓reduceIte, Nat.reduceLT, Nat.reduceEqDiff, Nat.reduceAdd, Nat.reduceMul, Nat.reduceLeDiff, Nat.reduceBEq, Nat.reduceSub, Int.reduceLT, Int.reduceLE, Int.reduceEq, Int.reduceToNat, reduceCtorEq, Nat.lt_irrefl, Nat.le_refl]
  refine call0 (h17) (by rfl) (by rfl) (by rfl) (by rfl) ?_
  simp only [go_sem, ↓reduceIte, Nat.reduceLT, Nat.reduceEqDiff, Nat.reduceAdd, Nat.reduceMul, Nat.reduceLeDiff, Nat.reduceBEq, Nat.reduceSub, Int.reduceLT, Int.reduceLE, Int.reduceEq, Int.reduceToNat, reduceCtorEq, Nat.lt_irrefl, Nat.le_refl]
  refine call0 (h14) (by rfl) (by rfl) (by rfl) (by rfl) ?_
  simp only [go_sem, ↓reduceIte, Nat.reduceLT, Nat.reduceEqDiff, Nat.reduceAdd, Nat.reduceMul, Nat.reduceLeDiff, Nat.reduceBEq, Nat.reduceSub, Int.reduceLT, Int.reduceLE, Int.reduceEq, Int.reduceToNat, reduceCtorEq, Nat.lt_irrefl, Nat.le_refl, Ty.t, Ty.row, h9]
  refine callK (by rfl) ?_
  simp only [go_sem, ↓reduceIte, Nat.reduceLT, Nat.reduceEqDiff, Nat.reduceAdd, Nat.reduceMul, Nat.reduceLeDiff, Nat.reduceBEq, Nat.reduceSub, Int.reduceLT, Int.reduceLE, Int.reduceEq, Int.reduceToNat, reduceCtorEq, Nat.lt_irrefl, Nat.le_refl]
  cases ta : a.tp (.mk kt lt) with
  | none =>
    have er : newR (.mk nm 0 [a, b]) (.mk kt lt) = .tup [nilT, tI 80] := by
      rw [newR, e0, ta]; rfl
    rw [er]
    refine callE (f55_no1 (nm := nm) (nm' := nm) (k' := 0) ta ia) (by rfl) ?_
    simp only [go_sem, ↓reduceIte, Nat.reduceLT, Nat.reduceEqDiff, Nat.reduceAdd, Nat.reduceMul, Nat.reduceLeDiff, Nat.reduceBEq, Nat.reduceSub, Int.reduceLT, Int.reduceLE, Int.reduceEq, Int.reduceToNat, reduceCtorEq, Nat.lt_irrefl, Nat.le_refl, obO, nilT]
  | some x =>
    obtain ⟨a1, o1⟩ := x
    cases tb : b.tp (.mk kt lt) with
    | none =>
      have er : newR (.mk nm 0 [a, b]) (.mk kt lt) = .tup [nilT, tI 80] := by
        rw [newR, e0, ta, tb]; rfl
      rw [er]
      obtain ⟨cs, h55⟩ := f55_no2 (nm := nm) (nm' := nm) (k' := 0) ta tb ia ib
      refine callE (h55) (by rfl) ?_
      simp only [go_sem, ↓reduceIte, Nat.reduceLT, Nat.reduceEqDiff, Nat.reduceAdd, Nat.reduceMul, Nat.reduceLeDiff, Nat.reduceBEq, Nat.reduceSub, Int.reduceLT, Int.reduceLE, Int.reduceEq, Int.reduceToNat, reduceCtorEq, Nat.lt_irrefl, Nat.le_refl, obO, nilT]
    | some x =>
      obtain ⟨a2, o2⟩ := x
      have h55 := f55_two (nm := nm) (nm' := nm) (k' := 0) ta tb ia ib
      have e2 : two [some (a1, o1), some (a2, o2)] = some (pr a1 a2, pr o1 o2) := rfl
      have er : newR (.mk nm 0 [a, b]) (.mk kt lt) = if (pr a1 a2).ok 6 = true then if (pr o1 o2).ok 6 = true then .tup [opT (.mk nm 0 [a, b]) (.mk kt lt), tI 0] else .tup [nilT, tI 80] else .tup [nilT, tI 80] := by
        rw [newR, e0, ta, tb, e2, chk]
        split
        · split <;> rfl
        · rfl
      rw [er]
      obtain ⟨ka1, la1, ha1⟩ := mk_at a1
      obtain ⟨ka2, la2, ha2⟩ := mk_at a2
      obtain ⟨ko1, lo1, ho1⟩ := mk_at o1
      obtain ⟨ko2, lo2, ho2⟩ := mk_at o2
      cases oa : (pr a1 a2).ok 6 with
      | false =>
        rw [oa] at h55
        simp only [Bool.false_eq_true, if_false] at h55 ⊢
        refine callE (h55) (by rfl) ?_
        simp only [go_sem, ↓reduceIte, Nat.reduceLT, Nat.reduceEqDiff, Nat.reduceAdd, Nat.reduceMul, Nat.reduceLeDiff, Nat.reduceBEq, Nat.reduceSub, Int.reduceLT, Int.reduceLE, Int.reduceEq, Int.reduceToNat, reduceCtorEq, Nat.lt_irrefl, Nat.le_refl, obO, nilT]
      | true =>
        cases oo : (pr o1 o2).ok 6 with
        | false =>
          rw [oa, oo] at h55
          simp only [Bool.false_eq_true, if_false, if_true] at h55 ⊢
          refine callE (h55) (by rfl) ?_
          simp only [go_sem, ↓reduceIte, Nat.reduceLT, Nat.reduceEqDiff, Nat.reduceAdd, Nat.reduceMul, Nat.reduceLeDiff, Nat.reduceBEq, Nat.reduceSub, Int.reduceLT, Int.reduceLE, Int.reduceEq, Int.reduceToNat, reduceCtorEq, Nat.lt_irrefl, Nat.le_refl, obO, nilT]
        | true =>
          rw [oa, oo] at h55
          simp only [if_true] at h55 ⊢
          refine callE (h55) (by rfl) ?_
          simp only [go_sem, ↓reduceIte, Nat.reduceLT, Nat.reduceEqDiff, Nat.reduceAdd, Nat.reduceMul, Nat.reduceLeDiff, Nat.reduceBEq, Nat.reduceSub, Int.reduceLT, Int.reduceLE, Int.reduceEq, Int.reduceToNat, reduceCtorEq, Nat.lt_irrefl, Nat.le_refl, obO]
          have ec : Co.tp (.mk nm 0 [a, b]) (.mk kt lt) = some (pr a1 a2, pr o1 o2) := by rw [e0, ta, tb, e2, chk_eq oa oo]
          rw [opT, op_eq, ec]
          simp only [go_sem, ↓reduceIte, Nat.reduceLT, Nat.reduceEqDiff, Nat.reduceAdd, Nat.reduceMul, Nat.reduceLeDiff, Nat.reduceBEq, Nat.reduceSub, Int.reduceLT, Int.reduceLE, Int.reduceEq, Int.reduceToNat, reduceCtorEq, Nat.lt_irrefl, Nat.le_refl, h9, opRow, Ty.row, pr, Ty.rows, Co.ops, Ty.kind, Ty.args]

/-- New. -/
theorem f24_ok (c : Co) (t : Ty) (hts : t.size < 100000) : Ev E false 24 [c.t, t.t] [] (if c.rt 3 = true then if t.ok 6 = true then newR c t else .tup [nilT, tI 20] else .tup [nilT, tI 80]) [] := by
  cases hc : c.rt 3 with
  | false =>
    have h54 := f54_ok 3 c (by omega)
    rw [hc] at h54
    obtain ⟨nm, k, ps, rfl⟩ := cmk_at c
    obtain ⟨kt, lt, rfl⟩ := mk_at t
    refine ev_of_wp (d := d24) rfl rfl (Nat.le_of_ble_eq_true rfl) ?_
    simp only [go_sem, ↓reduceIte, Nat.reduceLT, Nat.reduceEqDiff, Nat.reduceAdd, Nat.reduceMul, Nat.reduceLeDiff, Nat.reduceBEq, Nat.reduceSub, Int.reduceLT, Int.reduceLE, Int.reduceEq, Int.reduceToNat, reduceCtorEq, Nat.lt_irrefl, Nat.le_refl, d24, c24, Co.t, Co.row, Ty.t, Ty.row, Bool.false_eq_true]
    refine call0 (h54) (by rfl) (by rfl) (by rfl) (by rfl) ?_
    simp only [go_sem, ↓reduceIte, Nat.reduceLT, Nat.reduceEqDiff, Nat.reduceAdd, Nat.reduceMul, Nat.reduceLeDiff, Nat.reduceBEq, Nat.reduceSub, Int.reduceLT, Int.reduceLE, Int.reduceEq, Int.reduceToNat, reduceCtorEq, Nat.lt_irrefl, Nat.le_refl, nilT]
  | true =>
    cases ht : t.ok 6 with
    | false =>
      have h54 := f54_ok 3 c (by omega)
      rw [hc] at h54
      have h17 := f17_ok t hts
      rw [ht] at h17
      simp only [Bool.false_eq_true, if_false] at h17
      obtain ⟨nm, k, ps, rfl⟩ := cmk_at c
      obtain ⟨kt, lt, rfl⟩ := mk_at t
      refine ev_of_wp (d := d24) rfl rfl (Nat.le_of_ble_eq_true rfl) ?_
      simp only [go_sem, ↓reduceIte, Nat.reduceLT, Nat.reduceEqDiff, Nat.reduceAdd, Nat.reduceMul, Nat.reduceLeDiff, Nat.reduceBEq, Nat.reduceSub, Int.reduceLT, Int.reduceLE, Int.reduceEq, Int.reduceToNat, reduceCtorEq, Nat.lt_irrefl, Nat.le_refl, d24, c24, Co.t, Co.row, Ty.t, Ty.row, Bool.false_eq_true]
      refine call0 (h54) (by rfl) (by rfl) (by rfl) (by rfl) ?_
      simp only [go_sem, ↓reduceIte, Nat.reduceLT, Nat.reduceEqDiff, Nat.reduceAdd, Nat.reduceMul, Nat.reduceLeDiff, Nat.reduceBEq, Nat.reduceSub, Int.reduceLT, Int.reduceLE, Int.reduceEq, Int.reduceToNat, reduceCtorEq, Nat.lt_irrefl, Nat.le_refl]
      refine call0 (h17) (by rfl) (by rfl) (by rfl) (by rfl) ?_
      simp only [go_sem, ↓reduceIte, Nat.reduceLT, Nat.reduceEqDiff, Nat.reduceAdd, Nat.reduceMul, Nat.reduceLeDiff, Nat.reduceBEq, Nat.reduceSub, Int.reduceLT, Int.reduceLE, Int.reduceEq, Int.reduceToNat, reduceCtorEq, Nat.lt_irrefl, Nat.le_refl, nilT]
    | true => exact f24_rt 3 c t hc hc ht

end Go.Dev.CB

/- What is told of a combiner with a type: its types, whether it is plain, what it creates. -/
namespace Go.Dev.CB
open Go Go.Dev Go.Dev.Wk
set_option maxRecDepth 100000

theorem f29_ok {c : Co} {t a o : Ty} (h : c.tp t = some (a, o)) : Ev E false 29 [opT c t] [] (.tup [a.t, o.t]) [] := by
  obtain ⟨nm, k, ps, e⟩ := op_acc h
  have sa := ok_size 6 _ (tp_ok h).1
  have so := ok_size 6 _ (tp_ok h).2
  obtain ⟨ka, la, rfl⟩ := mk_at a
  obtain ⟨ko, lo, rfl⟩ := mk_at o
  have h1 := f14_ok (k := ka) (l := la) (by omega)
  have h2 := f14_ok (k := ko) (l := lo) (by omega)
  rw [(tp_ok h).1, if_pos rfl] at h1
  rw [(tp_ok h).2, if_pos rfl] at h2
  obtain ⟨kt, lt, rfl⟩ := mk_at t
  refine ev_of_wp (d := d29) rfl rfl (Nat.le_of_ble_eq_true rfl) ?_
  rw [opT, e]
  simp only [go_sem, ↓reduceIte, Nat.reduceLT, Nat.reduceEqDiff, Nat.reduceAdd, Nat.reduceMul, Nat.reduceLeDiff, Nat.reduceBEq, Nat.reduceSub, Int.reduceLT, Int.reduceLE, Int.reduceEq, Int.reduceToNat, reduceCtorEq, Nat.lt_irrefl, Nat.le_refl, d29, c29, opRow, Ty.row]
  refine call0 (h1) (by rfl) (by rfl) (by rfl) (by rfl) ?_
  simp only [go_sem, ↓reduceIte, Nat.reduceLT, Nat.reduceEqDiff, Nat.reduceAdd, Nat.reduceMul, Nat.reduceLeDiff, Nat.reduceBEq, Nat.reduceSub, Int.reduceLT, Int.reduceLE, Int.reduceEq, Int.reduceToNat, reduceCtorEq, Nat.lt_irrefl, Nat.le_refl, Ty.t, Ty.row]
  refine call0 (h2) (by rfl) (by rfl) (by rfl) (by rfl) ?_
  simp only [go_sem, ↓reduceIte, Nat.reduceLT, Nat.reduceEqDiff, Nat.reduceAdd, Nat.reduceMul, Nat.reduceLeDiff, Nat.reduceBEq, Nat.reduceSub, Int.reduceLT, Int.reduceLE, Int.reduceEq, Int.reduceToNat, reduceCtorEq, Nat.lt_irrefl, Nat.le_refl, Ty.t, Ty.row]

/-! ### Plain -/

mutual
def Co.pl : Co → Bool
  | .mk nm _ ps => !decide (nid nm = 2) && Co.pls ps
def Co.pls : List Co → Bool
  | [] => true
  | t :: ts => t.pl && Co.pls ts
end
theorem pls_all (l : List Co) : Co.pls l = l.all Co.pl := by
  induction l with
  | nil => rfl
  | cons a l ih => simp only [Co.pls, ih, List.all_cons]

theorem ops_map (ps : List Co) (t : Ty) : Co.ops ps t = ps.map fun p => [V.pt (p.op t)] := by
  induction ps with
  | nil => rfl
  | cons p ps ih => simp only [Co.ops, ih, List.map_cons]
theorem ops_at {ps : List Co} {t : Ty} {j : Nat} (h : j < ps.length) : (Co.ops ps t)[j]? = some [.pt (ps[j].op t)] := by
  rw [ops_map, List.getElem?_map, List.getElem?_eq_getElem h]; rfl
theorem ops_len (ps : List Co) (t : Ty) : (Co.ops ps t).length = ps.length := by rw [ops_map, List.length_map]

theorem f31_ok (N : Nat) : ∀ (c : Co) (t : Ty), c.size ≤ N → N < 100000 → Ev E false 31 [opT c t] [] (tB c.pl) [] := by
  induction N with
  | zero => intro c t h; obtain ⟨nm, k, ps, rfl⟩ := cmk_at c; simp only [Co.size] at h; omega
  | succ N ih =>
  intro c t hs hN
  obtain ⟨nm, k, ps, rfl⟩ := cmk_at c
  simp only [Co.size] at hs
  have hl := clen_size ps
  have h58 : ∀ p ∈ ps, Ev E false 58 [opT p t] [] (tB (!p.pl)) [] := by
    intro p hp
    have ip := ih p t (by have := csize_mem hp; omega) (by omega)
    refine ev_of_wp (d := d58) rfl rfl (Nat.le_of_ble_eq_true rfl) ?_
    rw [opT] at ip ⊢
    simp only [go_sem, ↓reduceIte, Nat.reduceLT, Nat.reduceEqDiff, Nat.reduceAdd, Nat.reduceMul, Nat.reduceLeDiff, Nat.reduceBEq, Nat.reduceSub, Int.reduceLT, Int.reduceLE, Int.reduceEq, Int.reduceToNat, reduceCtorEq, Nat.lt_irrefl, Nat.le_refl, d58, c58]
    refine call0 (ip) (by rfl) (by rfl) (by rfl) (by rfl) ?_
    simp only [go_sem, ↓reduceIte, Nat.reduceLT, Nat.reduceEqDiff, Nat.reduceAdd, Nat.reduceMul, Nat.reduceLeDiff, Nat.reduceBEq, Nat.reduceSub, Int.reduceLT, Int.reduceLE, Int.reduceEq, Int.reduceToNat, reduceCtorEq, Nat.lt_irrefl, Nat.le_refl]
  have h84 : Ev E false 84 [.one (.v (.sl (Co.ops ps t))), .one (.fn (.func 58) [] [])] [] (tI (idxI (ps.findIdx? fun p => !p.pl))) [] := by
    refine ev_of_wp (d := d84) rfl rfl (Nat.le_of_ble_eq_true rfl) ?_
    simp only [go_sem, ↓reduceIte, Nat.reduceLT, Nat.reduceEqDiff, Nat.reduceAdd, Nat.reduceMul, Nat.reduceLeDiff, Nat.reduceBEq, Nat.reduceSub, Int.reduceLT, Int.reduceLE, Int.reduceEq, Int.reduceToNat, reduceCtorEq, Nat.lt_irrefl, Nat.le_refl, d84, c84, ops_len]
    refine loop_ind (I := fun (j : Nat) tm bx fo => j ≤ ps.length ∧ fo = [] ∧ tm 0 = .one (.v (.sl (Co.ops ps t))) ∧ tm 1 = .one (.fn (.func 58) [] []) ∧ tm 7 = tI ps.length ∧ tm 8 = tI j ∧
        ∀ i, (h : i < j) → (h2 : i < ps.length) → ps[i].pl = true) (μ := fun j => ps.length - j) ?_ 0 _ _ _ ⟨Nat.zero_le _, rfl, rfl, rfl, rfl, rfl, fun i h => absurd h (Nat.not_lt_zero _)⟩
    rintro j tm bx fo ⟨hj, rfl, h0, h1, h7, h8, hn⟩ IH
    by_cases hjl : j < ps.length
    · have e3 := ops_at (t := t) hjl
      have e4 := h58 ps[j] (List.getElem_mem hjl)
      rw [opT] at e4
      simp only [go_sem, ↓reduceIte, Nat.reduceLT, Nat.reduceEqDiff, Nat.reduceAdd, Nat.reduceMul, Nat.reduceLeDiff, Nat.reduceBEq, Nat.reduceSub, Int.reduceLT, Int.reduceLE, Int.reduceEq, Int.reduceToNat, reduceCtorEq, Nat.lt_irrefl, Nat.le_refl, h0, h1, h7, h8, hjl, e3]
      refine call0 (e4) (by rfl) (by rfl) (by rfl) (by rfl) ?_
      cases hk : ps[j].pl with
      | false =>
        simp only [go_sem, ↓reduceIte, Nat.reduceLT, Nat.reduceEqDiff, Nat.reduceAdd, Nat.reduceMul, Nat.reduceLeDiff, Nat.reduceBEq, Nat.reduceSub, Int.reduceLT, Int.reduceLE, Int.reduceEq, Int.reduceToNat, reduceCtorEq, Nat.lt_irrefl, Nat.le_refl, hk, h8]
        have : (ps.findIdx? fun p => !p.pl) = some j := find_at hjl (by simp [hk]) (fun i hi => by simp [hn i hi (by omega)])
        rw [this]; rfl
      | true =>
        simp only [go_sem, ↓reduceIte, Nat.reduceLT, Nat.reduceEqDiff, Nat.reduceAdd, Nat.reduceMul, Nat.reduceLeDiff, Nat.reduceBEq, Nat.reduceSub, Int.reduceLT, Int.reduceLE, Int.reduceEq, Int.reduceToNat, reduceCtorEq, Nat.lt_irrefl, Nat.le_refl, hk, h8]
        refine IH (j + 1) _ _ _ (by omega) ⟨by omega, rfl, h0, h1, h7, ?_, ?_⟩
        · show T.one (C.v (V.s (Value.int IntKind.i64 (IntKind.i64.wrap (j + 1))))) = _
          rw [wrap_succ (by omega)]; rfl
        · intro i h h2
          by_cases hij : i = j
          · subst hij; exact hk
          · exact hn i (by omega) h2
    · simp only [go_sem, ↓reduceIte, Nat.reduceLT, Nat.reduceEqDiff, Nat.reduceAdd, Nat.reduceMul, Nat.reduceLeDiff, Nat.reduceBEq, Nat.reduceSub, Int.reduceLT, Int.reduceLE, Int.reduceEq, Int.reduceToNat, reduceCtorEq, Nat.lt_irrefl, Nat.le_refl, h0, h1, h7, h8, hjl]
      have : (ps.findIdx? fun p => !p.pl) = none := find_none (fun i hi => by simp [hn i (by omega) hi])
      rw [this]; rfl
  have h57 : Ev E false 57 [.one (.v (.sl (Co.ops ps t))), .one (.fn (.func 58) [] [])] [] (tB (!Co.pls ps)) [] := by
    refine ev_of_wp (d := d57) rfl rfl (Nat.le_of_ble_eq_true rfl) ?_
    simp only [go_sem, ↓reduceIte, Nat.reduceLT, Nat.reduceEqDiff, Nat.reduceAdd, Nat.reduceMul, Nat.reduceLeDiff, Nat.reduceBEq, Nat.reduceSub, Int.reduceLT, Int.reduceLE, Int.reduceEq, Int.reduceToNat, reduceCtorEq, Nat.lt_irrefl, Nat.le_refl, d57, c57]
    refine call0 (h84) (by rfl) (by rfl) (by rfl) (by rfl) ?_
    cases hi : ps.findIdx? fun p => !p.pl with
    | none =>
      have : Co.pls ps = true := by
        rw [pls_all, List.all_eq_true]
        intro p hp
        simpa using List.findIdx?_eq_none_iff.1 hi p hp
      simp only [go_sem, ↓reduceIte, Nat.reduceLT, Nat.reduceEqDiff, Nat.reduceAdd, Nat.reduceMul, Nat.reduceLeDiff, Nat.reduceBEq, Nat.reduceSub, Int.reduceLT, Int.reduceLE, Int.reduceEq, Int.reduceToNat, reduceCtorEq, Nat.lt_irrefl, Nat.le_refl, hi, idxI, this]
    | some i =>
      have : Co.pls ps = false := by
        rw [pls_all]
        obtain ⟨h1, h2, _⟩ := List.findIdx?_eq_some_iff_getElem.1 hi
        exact all_false h1 (by simpa using h2)
      simp only [go_sem, ↓reduceIte, Nat.reduceLT, Nat.reduceEqDiff, Nat.reduceAdd, Nat.reduceMul, Nat.reduceLeDiff, Nat.reduceBEq, Nat.reduceSub, Int.reduceLT, Int.reduceLE, Int.reduceEq, Int.reduceToNat, reduceCtorEq, Nat.lt_irrefl, Nat.le_refl, hi, idxI, this]
  refine ev_of_wp (d := d31) rfl rfl (Nat.le_of_ble_eq_true rfl) ?_
  obtain ⟨kt, lt, rfl⟩ := mk_at t
  rw [opT, op_eq]
  generalize ((Co.tp (.mk nm k ps) (.mk kt lt)).getD (num, num)).1 = a
  generalize ((Co.tp (.mk nm k ps) (.mk kt lt)).getD (num, num)).2 = o
  obtain ⟨ka, la, rfl⟩ := mk_at a
  obtain ⟨ko, lo, rfl⟩ := mk_at o
  by_cases h2 : nid nm = 2
  · simp only [go_sem, ↓reduceIte, Nat.reduceLT, Nat.reduceEqDiff, Nat.reduceAdd, Nat.reduceMul, Nat.reduceLeDiff, Nat.reduceBEq, Nat.reduceSub, Int.reduceLT, Int.reduceLE, Int.reduceEq, Int.reduceToNat, reduceCtorEq, Nat.lt_irrefl, Nat.le_refl, d31, c31, opRow, Ty.row, h2, Co.pl]
  · simp only [go_sem, ↓reduceIte, Nat.reduceLT, Nat.reduceEqDiff, Nat.reduceAdd, Nat.reduceMul, Nat.reduceLeDiff, Nat.reduceBEq, Nat.reduceSub, Int.reduceLT, Int.reduceLE, Int.reduceEq, Int.reduceToNat, reduceCtorEq, Nat.lt_irrefl, Nat.le_refl, d31, c31, opRow, Ty.row, h2]
    refine call0 (h57) (by rfl) (by rfl) (by rfl) (by rfl) ?_
    simp only [go_sem, ↓reduceIte, Nat.reduceLT, Nat.reduceEqDiff, Nat.reduceAdd, Nat.reduceMul, Nat.reduceLeDiff, Nat.reduceBEq, Nat.reduceSub, Int.reduceLT, Int.reduceLE, Int.reduceEq, Int.reduceToNat, reduceCtorEq, Nat.lt_irrefl, Nat.le_refl, Co.pl, h2, Bool.not_not]

theorem f32_ok (N : Nat) : ∀ (c : Co), c.size ≤ N → N < 100000 → Ev E false 32 [c.t] [] (tB c.pl) [] := by
  induction N with
  | zero => intro c h; obtain ⟨nm, k, ps, rfl⟩ := cmk_at c; simp only [Co.size] at h; omega
  | succ N ih =>
  intro c hs hN
  obtain ⟨nm, k, ps, rfl⟩ := cmk_at c
  simp only [Co.size] at hs
  have hl := clen_size ps
  refine ev_of_wp (d := d32) rfl rfl (Nat.le_of_ble_eq_true rfl) ?_
  simp only [go_sem, ↓reduceIte, Nat.reduceLT, Nat.reduceEqDiff, Nat.reduceAdd, Nat.reduceMul, Nat.reduceLeDiff, Nat.reduceBEq, Nat.reduceSub, Int.reduceLT, Int.reduceLE, Int.reduceEq, Int.reduceToNat, reduceCtorEq, Nat.lt_irrefl, Nat.le_refl, d32, c32, Co.t, Co.row]
  refine loop_ind (I := fun (j : Nat) tm bx fo => j ≤ ps.length ∧ fo = [] ∧ tm 1 = .one (.ref (.loc 1 1) 0) ∧ tm 3 = tI j ∧ bx 1 = ⟨1, 54, [.v (.s (.string nm)), .v (.s (.int .i64 k)), .v (.sl (Co.rows ps))]⟩ ∧ (ps.take j).all Co.pl = true) (μ := fun j => ps.length - j) ?_ 0 _ _ _ ⟨Nat.zero_le _, rfl, rfl, rfl, rfl, rfl⟩
  rintro j tm bx fo ⟨hj, rfl, t1, t3, b1, hn⟩ IH
  by_cases hjl : j < ps.length
  · have e3 := crows_at hjl
    have e5 := ih ps[j] (by have := csize_at hjl; omega) (by omega)
    have et := all_take_succ (p := Co.pl) hjl
    obtain ⟨nm', k', l', he⟩ := cmk_at ps[j]
    rw [he] at e3 e5
    rw [he, hn] at et
    simp only [go_sem, ↓reduceIte, Nat.reduceLT, Nat.reduceEqDiff, Nat.reduceAdd, Nat.reduceMul, Nat.reduceLeDiff, Nat.reduceBEq, Nat.reduceSub, Int.reduceLT, Int.reduceLE, Int.reduceEq, Int.reduceToNat, reduceCtorEq, Nat.lt_irrefl, Nat.le_refl, t1, t3, b1, crows_len, hjl, e3, Co.row]
    refine call0 (e5) (by rfl) (by rfl) (by rfl) (by rfl) ?_
    cases hk : (Co.mk nm' k' l').pl with
    | false =>
      have : Co.pls ps = false := by rw [pls_all]; exact all_false hjl (by rw [he]; exact hk)
      simp only [go_sem, ↓reduceIte, Nat.reduceLT, Nat.reduceEqDiff, Nat.reduceAdd, Nat.reduceMul, Nat.reduceLeDiff, Nat.reduceBEq, Nat.reduceSub, Int.reduceLT, Int.reduceLE, Int.reduceEq, Int.reduceToNat, reduceCtorEq, Nat.lt_irrefl, Nat.le_refl, hk, Co.pl, this]
    | true =>
      rw [hk] at et
      simp only [go_sem, ↓reduceIte, Nat.reduceLT, Nat.reduceEqDiff, Nat.reduceAdd, Nat.reduceMul, Nat.reduceLeDiff, Nat.reduceBEq, Nat.reduceSub, Int.reduceLT, Int.reduceLE, Int.reduceEq, Int.reduceToNat, reduceCtorEq, Nat.lt_irrefl, Nat.le_refl, hk, t3]
      refine IH (j + 1) _ _ _ (by omega) ⟨by omega, rfl, t1, ?_, b1, et⟩
      show T.one (C.v (V.s (Value.int IntKind.i64 (IntKind.i64.wrap (j + 1))))) = _
      rw [wrap_succ (by omega)]; rfl
  · have : Co.pls ps = true := by rw [pls_all]; rw [List.take_of_length_le (by omega)] at hn; exact hn
    simp only [go_sem, ↓reduceIte, Nat.reduceLT, Nat.reduceEqDiff, Nat.reduceAdd, Nat.reduceMul, Nat.reduceLeDiff, Nat.reduceBEq, Nat.reduceSub, Int.reduceLT, Int.reduceLE, Int.reduceEq, Int.reduceToNat, reduceCtorEq, Nat.lt_irrefl, Nat.le_refl, t1, t3, b1, crows_len, hjl, Co.pl, this]

end Go.Dev.CB

/- Values: which are right. -/
namespace Go.Dev.CB
open Go Go.Dev Go.Dev.Wk
set_option maxRecDepth 100000

inductive Vl where
  | mk (k n : Int) (p : Bool) (l : List Vl)

def pV : Bool → Value
  | false => .complex .f64 0 0
  | true => .complex .f64 4607182418800017408 0

mutual
def Vl.row : Vl → List V
  | .mk k n p l => [.s (.int .i64 k), .s (.int .i64 n), .s (.string ⟨#[]⟩), .s (pV p), .sl (Vl.rows l)]
def Vl.rows : List Vl → List (List V)
  | [] => []
  | t :: ts => t.row :: Vl.rows ts
end
mutual
def Vl.size : Vl → Nat
  | .mk _ _ _ l => 1 + Vl.sizes l
def Vl.sizes : List Vl → Nat
  | [] => 0
  | t :: ts => t.size + Vl.sizes ts
end
def Vl.t (t : Vl) : T := .agg (t.row.map .v)
def Vl.l : Vl → List Vl
  | .mk _ _ _ l => l

theorem vrows_map (l : List Vl) : Vl.rows l = l.map Vl.row := by
  induction l with
  | nil => rfl
  | cons a l ih => simp only [Vl.rows, ih, List.map_cons]
theorem vrows_len (l : List Vl) : (Vl.rows l).length = l.length := by rw [vrows_map, List.length_map]
theorem vrows_at {l : List Vl} {j : Nat} (h : j < l.length) : (Vl.rows l)[j]? = some (l[j].row) := by
  rw [vrows_map, List.getElem?_map, List.getElem?_eq_getElem h]; rfl
theorem vmk_at (t : Vl) : ∃ k n p l, t = .mk k n p l := by cases t; exact ⟨_, _, _, _, rfl⟩
theorem vsz_rows (l : List Vl) : allSz 5 (Vl.rows l) = true := by
  rw [vrows_map]; exact allSz_map (fun t => by cases t; rfl) l
theorem vrows_app (l m : List Vl) : Vl.rows (l ++ m) = Vl.rows l ++ Vl.rows m := by simp only [vrows_map, List.map_append]
theorem vsizes_app (l m : List Vl) : Vl.sizes (l ++ m) = Vl.sizes l + Vl.sizes m := by
  induction l with
  | nil => simp [Vl.sizes]
  | cons a l ih => simp only [List.cons_append, Vl.sizes, ih]; omega
theorem vlen_size (l : List Vl) : l.length ≤ Vl.sizes l := by
  induction l with
  | nil => exact Nat.zero_le _
  | cons a l ih => cases a; simp only [Vl.sizes, Vl.size, List.length_cons]; omega

theorem bin_c0 : bin .eql (.one (.v (.s (.complex .f64 0 0)))) (.one (.v (.s (.complex .f64 0 0)))) = some (.one (.v (.s (.bool true)))) := by kernel_rfl

theorem f121_ok (k n : Int) (l : List Vl) (num lst : Bool) : Ev E false 121 [(Vl.mk k n false l).t, tB num, tB false, tB false, tB lst] [] (tB ((num || decide (n = 0)) && (lst || decide (l.length = 0)))) [] := by
  refine ev_of_wp (d := d121) rfl rfl (Nat.le_of_ble_eq_true rfl) ?_
  by_cases hn : n = 0
  · by_cases hl : l.length = 0
    · cases num <;> cases lst <;> simp only [go_sem, ↓reduceIte, Nat.reduceLT, Nat.reduceEqDiff, Nat.reduceAdd, Nat.reduceMul, Nat.reduceLeDiff, Nat.reduceBEq, Nat.reduceSub, Int.reduceLT, Int.reduceLE, Int.reduceEq, Int.reduceToNat, reduceCtorEq, Nat.lt_irrefl, Nat.le_refl, d121, c121, Vl.t, Vl.row, pV, hn, hl, bin_c0, vrows_len, ncast_eq0, nid_empty]
    · cases num <;> cases lst <;> simp only [go_sem, ↓reduceIte, Nat.reduceLT, Nat.reduceEqDiff, Nat.reduceAdd, Nat.reduceMul, Nat.reduceLeDiff, Nat.reduceBEq, Nat.reduceSub, Int.reduceLT, Int.reduceLE, Int.reduceEq, Int.reduceToNat, reduceCtorEq, Nat.lt_irrefl, Nat.le_refl, d121, c121, Vl.t, Vl.row, pV, hn, hl, bin_c0, vrows_len, ncast_eq0]
  · by_cases hl : l.length = 0
    · cases num <;> cases lst <;> simp only [go_sem, ↓reduceIte, Nat.reduceLT, Nat.reduceEqDiff, Nat.reduceAdd, Nat.reduceMul, Nat.reduceLeDiff, Nat.reduceBEq, Nat.reduceSub, Int.reduceLT, Int.reduceLE, Int.reduceEq, Int.reduceToNat, reduceCtorEq, Nat.lt_irrefl, Nat.le_refl, d121, c121, Vl.t, Vl.row, pV, hn, hl, bin_c0, vrows_len, ncast_eq0]
    · cases num <;> cases lst <;> simp only [go_sem, ↓reduceIte, Nat.reduceLT, Nat.reduceEqDiff, Nat.reduceAdd, Nat.reduceMul, Nat.reduceLeDiff, Nat.reduceBEq, Nat.reduceSub, Int.reduceLT, Int.reduceLE, Int.reduceEq, Int.reduceToNat, reduceCtorEq, Nat.lt_irrefl, Nat.le_refl, d121, c121, Vl.t, Vl.row, pV, hn, hl, bin_c0, vrows_len, ncast_eq0]

/-- A value that is right but for its list. -/
inductive Own : Int → Int → Bool → Nat → Prop
  | int (n : Int) : Own 2 n false 0
  | pt : Own 5 0 true 0
  | pair : Own 6 0 false 2
  | list (len : Nat) (h : len ≤ 64) : Own 7 0 false len
  | no : Own 8 0 false 0
  | some : Own 9 0 false 1

theorem f106_ok {k n : Int} {p : Bool} {l : List Vl} (h : Own k n p l.length) : Ev E false 106 [(Vl.mk k n p l).t] [] (tB true) [] := by
  generalize hlen : l.length = len at h
  cases h with
  | pt => obtain rfl := List.length_eq_zero_iff.1 hlen; exact ⟨60, by kernel_rfl⟩
  | int n =>
    refine ev_of_wp (d := d106) rfl rfl (Nat.le_of_ble_eq_true rfl) ?_
    simp only [go_sem, ↓reduceIte, Nat.reduceLT, Nat.reduceEqDiff, Nat.reduceAdd, Nat.reduceMul, Nat.reduceLeDiff, Nat.reduceBEq, Nat.reduceSub, Int.reduceLT, Int.reduceLE, Int.reduceEq, Int.reduceToNat, reduceCtorEq, Nat.lt_irrefl, Nat.le_refl, d106, c106, Vl.t, Vl.row]
    refine call0 (f121_ok 2 n l true false) (by rfl) (by rfl) (by rfl) (by rfl) ?_
    simp only [go_sem, ↓reduceIte, Nat.reduceLT, Nat.reduceEqDiff, Nat.reduceAdd, Nat.reduceMul, Nat.reduceLeDiff, Nat.reduceBEq, Nat.reduceSub, Int.reduceLT, Int.reduceLE, Int.reduceEq, Int.reduceToNat, reduceCtorEq, Nat.lt_irrefl, Nat.le_refl, hlen]
  | pair =>
    refine ev_of_wp (d := d106) rfl rfl (Nat.le_of_ble_eq_true rfl) ?_
    simp only [go_sem, ↓reduceIte, Nat.reduceLT, Nat.reduceEqDiff, Nat.reduceAdd, Nat.reduceMul, Nat.reduceLeDiff, Nat.reduceBEq, Nat.reduceSub, Int.reduceLT, Int.reduceLE, Int.reduceEq, Int.reduceToNat, reduceCtorEq, Nat.lt_irrefl, Nat.le_refl, d106, c106, Vl.t, Vl.row]
    refine call0 (f121_ok 6 0 l false true) (by rfl) (by rfl) (by rfl) (by rfl) ?_
    simp only [go_sem, ↓reduceIte, Nat.reduceLT, Nat.reduceEqDiff, Nat.reduceAdd, Nat.reduceMul, Nat.reduceLeDiff, Nat.reduceBEq, Nat.reduceSub, Int.reduceLT, Int.reduceLE, Int.reduceEq, Int.reduceToNat, reduceCtorEq, Nat.lt_irrefl, Nat.le_refl, hlen, vrows_len, ncast_eq2]
  | list len h =>
    refine ev_of_wp (d := d106) rfl rfl (Nat.le_of_ble_eq_true rfl) ?_
    have e : ((l.length : Int) ≤ 64) = True := eq_true (by omega)
    simp only [go_sem, ↓reduceIte, Nat.reduceLT, Nat.reduceEqDiff, Nat.reduceAdd, Nat.reduceMul, Nat.reduceLeDiff, Nat.reduceBEq, Nat.reduceSub, Int.reduceLT, Int.reduceLE, Int.reduceEq, Int.reduceToNat, reduceCtorEq, Nat.lt_irrefl, Nat.le_refl, d106, c106, Vl.t, Vl.row]
    refine call0 (f121_ok 7 0 l false true) (by rfl) (by rfl) (by rfl) (by rfl) ?_
    simp only [go_sem, ↓reduceIte, Nat.reduceLT, Nat.reduceEqDiff, Nat.reduceAdd, Nat.reduceMul, Nat.reduceLeDiff, Nat.reduceBEq, Nat.reduceSub, Int.reduceLT, Int.reduceLE, Int.reduceEq, Int.reduceToNat, reduceCtorEq, Nat.lt_irrefl, Nat.le_refl, vrows_len, e]
  | no =>
    refine ev_of_wp (d := d106) rfl rfl (Nat.le_of_ble_eq_true rfl) ?_
    simp only [go_sem, ↓reduceIte, Nat.reduceLT, Nat.reduceEqDiff, Nat.reduceAdd, Nat.reduceMul, Nat.reduceLeDiff, Nat.reduceBEq, Nat.reduceSub, Int.reduceLT, Int.reduceLE, Int.reduceEq, Int.reduceToNat, reduceCtorEq, Nat.lt_irrefl, Nat.le_refl, d106, c106, Vl.t, Vl.row]
    refine call0 (f121_ok 8 0 l false false) (by rfl) (by rfl) (by rfl) (by rfl) ?_
    simp only [go_sem, ↓reduceIte, Nat.reduceLT, Nat.reduceEqDiff, Nat.reduceAdd, Nat.reduceMul, Nat.reduceLeDiff, Nat.reduceBEq, Nat.reduceSub, Int.reduceLT, Int.reduceLE, Int.reduceEq, Int.reduceToNat, reduceCtorEq, Nat.lt_irrefl, Nat.le_refl, hlen]
  | some =>
    refine ev_of_wp (d := d106) rfl rfl (Nat.le_of_ble_eq_true rfl) ?_
    have e : ((l.length : Int) = 1) = True := eq_true (by omega)
    simp only [go_sem, ↓reduceIte, Nat.reduceLT, Nat.reduceEqDiff, Nat.reduceAdd, Nat.reduceMul, Nat.reduceLeDiff, Nat.reduceBEq, Nat.reduceSub, Int.reduceLT, Int.reduceLE, Int.reduceEq, Int.reduceToNat, reduceCtorEq, Nat.lt_irrefl, Nat.le_refl, d106, c106, Vl.t, Vl.row]
    refine call0 (f121_ok 9 0 l false true) (by rfl) (by rfl) (by rfl) (by rfl) ?_
    simp only [go_sem, ↓reduceIte, Nat.reduceLT, Nat.reduceEqDiff, Nat.reduceAdd, Nat.reduceMul, Nat.reduceLeDiff, Nat.reduceBEq, Nat.reduceSub, Int.reduceLT, Int.reduceLE, Int.reduceEq, Int.reduceToNat, reduceCtorEq, Nat.lt_irrefl, Nat.le_refl, vrows_len, e]

end Go.Dev.CB

/- Values measured. -/
namespace Go.Dev.CB
open Go Go.Dev Go.Dev.Wk
set_option maxRecDepth 100000

inductive Fine : Vl → Prop
  | mk {k n : Int} {p : Bool} {l : List Vl} (h : Own k n p l.length) (hl : ∀ v ∈ l, Fine v) : Fine (.mk k n p l)

theorem Fine.own {k n : Int} {p : Bool} {l : List Vl} (h : Fine (.mk k n p l)) : Own k n p l.length := by cases h; assumption
theorem Fine.kid {v : Vl} (h : Fine v) : ∀ x ∈ v.l, Fine x := by cases h; assumption

mutual
def Vl.ht : Vl → Nat
  | .mk _ _ _ l => 1 + Vl.hts l
def Vl.hts : List Vl → Nat
  | [] => 0
  | t :: ts => if t.ht ≤ Vl.hts ts then Vl.hts ts else t.ht
end

def kids (L : List Vl) : List Vl := L.flatMap Vl.l

theorem kids_size (L : List Vl) : Vl.sizes L = L.length + Vl.sizes (kids L) := by
  induction L with
  | nil => rfl
  | cons a L ih =>
    obtain ⟨k, n, p, l, rfl⟩ := vmk_at a
    simp only [Vl.sizes, Vl.size, kids, List.flatMap_cons, vsizes_app, List.length_cons, Vl.l] at ih ⊢
    omega

theorem hts_app (a b : List Vl) : Vl.hts (a ++ b) = if Vl.hts a ≤ Vl.hts b then Vl.hts b else Vl.hts a := by
  induction a with
  | nil => simp [Vl.hts]
  | cons x a ih =>
    simp only [List.cons_append, Vl.hts, ih]
    repeat' split
    all_goals omega

theorem kids_ht {L : List Vl} (h : L ≠ []) : Vl.hts L = 1 + Vl.hts (kids L) := by
  induction L with
  | nil => exact absurd rfl h
  | cons a L ih =>
    obtain ⟨k, n, p, l, rfl⟩ := vmk_at a
    by_cases hL : L = []
    · subst hL
      have e : ¬ (Vl.mk k n p l).ht ≤ Vl.hts [] := by simp only [Vl.ht, Vl.hts]; omega
      rw [Vl.hts, if_neg e]
      simp only [Vl.ht, kids, List.flatMap_cons, List.flatMap_nil, Vl.l, List.append_nil]
    · have := ih hL
      simp only [kids] at this
      simp only [Vl.hts, Vl.ht, kids, List.flatMap_cons, Vl.l, hts_app, this]
      repeat' split
      all_goals omega

theorem kids_fine {L : List Vl} (h : ∀ v ∈ L, Fine v) : ∀ v ∈ kids L, Fine v := by
  intro v hv
  obtain ⟨x, hx, hxv⟩ := List.mem_flatMap.1 hv
  exact (h x hx).kid v hxv

theorem kids_take {L : List Vl} {j : Nat} (h : j < L.length) : kids (L.take (j + 1)) = kids (L.take j) ++ L[j].l := by
  rw [List.take_add_one, List.getElem?_eq_getElem h]
  simp only [kids, List.flatMap_append, Option.toList, List.flatMap_cons, List.flatMap_nil, List.append_nil]

def r86a : DCode := .region [⟨some 1, .box 40 (.t 0), none, false⟩, ⟨some 2, .mv (.c (.one (.v (.s (.int .i64 0))))), none, false⟩, ⟨some 3, .mv (.c (.one (.v (.s (.int .i64 0))))), none, false⟩, ⟨some 4, .mv (.c (.one (.v (.s (.bool false))))), none, false⟩] []
def r86b : DCode := .region [⟨some 9, .load (some 5) (.t 1), none, false⟩, ⟨some 10, .bsl 40 5 false [(.t 9)], none, false⟩, ⟨some 5, .mv (.t 10), none, false⟩] []
def x86 : DCode := match c86 with
  | .seq _ (.scope (.seq _ (.seq _ x))) => x
  | _ => .skip
def b86 : DCode := .seq r86b (.seq (.label 0) x86)
theorem c86_eq : c86 = .seq r86a (.scope b86) := rfl

theorem lv_86 (Q : Ex → Fr → Prop) (m : Nat) : ∀ (L : List Vl) (s d : Nat) (x5 : T) (tm : Nat → T) (bx : Nat → Ob), Vl.hts L ≤ m → L ≠ [] → (∀ v ∈ L, Fine v) → s + Vl.sizes L ≤ 2000 → d + Vl.hts L ≤ 8 →
    tm 5 = x5 → lenLA x5 = some (tI L.length, []) → (∀ n, iaddrA 5 x5 (some n) = elemA 5 n (some (Vl.rows L))) → tm 2 = tI s → tm 3 = tI d →
    (∀ tm bx, tm 2 = tI ((s + Vl.sizes L : Nat) : Int) → tm 3 = tI ((d + Vl.hts L : Nat) : Int) → tm 4 = tB true → Q .ret (ofF 41 82 tm bx [])) →
    Wp E x86 (ofF 41 82 tm bx []) [.sc b86] Q := by
  induction m with
  | zero => intro L s d x5 tm bx hm hL; rw [kids_ht hL] at hm; omega
  | succ m ih =>
  intro L s d x5 tm bx hm hL hf hs hd h5 hlen hat h2 h3 hQ
  have hks := kids_size L
  have hkh := kids_ht hL
  simp only [go_sem, ↓reduceIte, Nat.reduceLT, Nat.reduceEqDiff, Nat.reduceAdd, Nat.reduceMul, Nat.reduceLeDiff, Nat.reduceBEq, Nat.reduceSub, Int.reduceLT, Int.reduceLE, Int.reduceEq, Int.reduceToNat, reduceCtorEq, Nat.lt_irrefl, Nat.le_refl, x86, c86, h5, hlen, h2, h3]
  rw [wrap_succ (n := d) (by omega)]
  refine loop_ind (I := fun (j : Nat) tm bx fo => j ≤ L.length ∧ fo = [] ∧ tm 2 = tI ((s + j : Nat) : Int) ∧ tm 3 = tI ((d + 1 : Nat) : Int) ∧ tm 13 = x5 ∧ tm 14 = tI L.length ∧ tm 15 = tI j ∧
      ((kids (L.take j) = [] ∧ tm 6 = .one .esl) ∨ (kids (L.take j) ≠ [] ∧ tm 6 = .one (.lin 31 (bx 31).g 40 (Vl.rows (kids (L.take j))))))) (μ := fun j => L.length - j) ?_ 0 _ _ _ ?_
  · rintro j tm bx fo ⟨hj, rfl, t2, t3, t13, t14, t15, h6⟩ IH
    by_cases hjl : j < L.length
    · have e3 := vrows_at hjl
      have ekt := kids_take hjl
      have hfj := hf L[j] (List.getElem_mem hjl)
      have hle : (kids (L.take j)).length + L[j].l.length ≤ Vl.sizes (kids L) := by
        have h1 := vlen_size (kids L)
        have h2 : kids L = kids (L.take j) ++ (L[j].l ++ kids (L.drop (j + 1))) := by
          have e1 : L = L.take j ++ L[j] :: L.drop (j + 1) := by rw [← List.drop_eq_getElem_cons hjl, List.take_append_drop]
          have e2 := congrArg kids e1
          simp only [kids, List.flatMap_append, List.flatMap_cons] at e2 ⊢
          exact e2
        have h3 := congrArg List.length h2
        simp only [List.length_append] at h3
        omega
      have hLs := vlen_size L
      obtain ⟨k, n, p, l, he⟩ := vmk_at L[j]
      rw [he] at e3 hfj ekt hle
      simp only [Vl.l] at ekt hle
      have e106 := f106_ok hfj.own
      have w2 : IntKind.i64.wrap (((s + j : Nat) : Int) + 1) = ((s + (j + 1) : Nat) : Int) := wrap_succ (n := s + j) (by omega)
      have g2 : ((2000 : Int) < ((s + (j + 1) : Nat) : Int)) = False := eq_false (by omega)
      simp only [go_sem, ↓reduceIte, Nat.reduceLT, Nat.reduceEqDiff, Nat.reduceAdd, Nat.reduceMul, Nat.reduceLeDiff, Nat.reduceBEq, Nat.reduceSub, Int.reduceLT, Int.reduceLE, Int.reduceEq, Int.reduceToNat, reduceCtorEq, Nat.lt_irrefl, Nat.le_refl, t2, t3, t13, t14, t15, hjl, hat, e3, Vl.row, w2]
      refine call0 (e106) (by rfl) (by rfl) (by rfl) (by rfl) ?_
      simp only [go_sem, ↓reduceIte, Nat.reduceLT, Nat.reduceEqDiff, Nat.reduceAdd, Nat.reduceMul, Nat.reduceLeDiff, Nat.reduceBEq, Nat.reduceSub, Int.reduceLT, Int.reduceLE, Int.reduceEq, Int.reduceToNat, reduceCtorEq, Nat.lt_irrefl, Nat.le_refl, g2]
      rcases h6 with ⟨hk0, h6⟩ | ⟨hk0, h6⟩
      · cases l with
        | nil =>
          simp only [go_sem, ↓reduceIte, Nat.reduceLT, Nat.reduceEqDiff, Nat.reduceAdd, Nat.reduceMul, Nat.reduceLeDiff, Nat.reduceBEq, Nat.reduceSub, Int.reduceLT, Int.reduceLE, Int.reduceEq, Int.reduceToNat, reduceCtorEq, Nat.lt_irrefl, Nat.le_refl, h6, Vl.rows, t15]
          refine IH (j + 1) _ _ _ (by omega) ?_
          refine ⟨by omega, rfl, rfl, t3, t13, t14, ?_, Or.inl ⟨by rw [ekt, hk0]; rfl, rfl⟩⟩
          show T.one (C.v (V.s (Value.int IntKind.i64 (IntKind.i64.wrap (j + 1))))) = _
          rw [wrap_succ (by omega)]; rfl
        | cons y ys =>
          have esz := vsz_rows (y :: ys)
          have ene : (Vl.rows (y :: ys)).isEmpty = false := by cases y; rfl
          simp only [go_sem, ↓reduceIte, Nat.reduceLT, Nat.reduceEqDiff, Nat.reduceAdd, Nat.reduceMul, Nat.reduceLeDiff, Nat.reduceBEq, Nat.reduceSub, Int.reduceLT, Int.reduceLE, Int.reduceEq, Int.reduceToNat, reduceCtorEq, Nat.lt_irrefl, Nat.le_refl, h6, esz, ene, appEsl, vrows_len, okB (n := ys.length + 1) (b := 72) (by rw [hk0] at hle; simp only [List.length_nil, List.length_cons] at hle; omega), t15]
          refine IH (j + 1) _ _ _ (by omega) ?_
          refine ⟨by omega, rfl, rfl, t3, t13, t14, ?_, Or.inr ⟨by rw [ekt, hk0]; simp, ?_⟩⟩
          · show T.one (C.v (V.s (Value.int IntKind.i64 (IntKind.i64.wrap (j + 1))))) = _
            rw [wrap_succ (by omega)]; rfl
          · rw [ekt, hk0]; rfl
      · have esz := vsz_rows l
        simp only [go_sem, ↓reduceIte, Nat.reduceLT, Nat.reduceEqDiff, Nat.reduceAdd, Nat.reduceMul, Nat.reduceLeDiff, Nat.reduceBEq, Nat.reduceSub, Int.reduceLT, Int.reduceLE, Int.reduceEq, Int.reduceToNat, reduceCtorEq, Nat.lt_irrefl, Nat.le_refl, h6, esz, appLin, vsz_rows, vrows_len, okB (n := (kids (L.take j)).length + l.length) (b := 72) (by omega), t15]
        refine IH (j + 1) _ _ _ (by omega) ?_
        refine ⟨by omega, rfl, rfl, t3, t13, t14, ?_, Or.inr ⟨by rw [ekt]; simp [hk0], ?_⟩⟩
        · show T.one (C.v (V.s (Value.int IntKind.i64 (IntKind.i64.wrap (j + 1))))) = _
          rw [wrap_succ (by omega)]; rfl
        · rw [ekt, vrows_app]; rfl
    · obtain rfl : j = L.length := by omega
      rw [List.take_length] at h6
      have g8 : ((8 : Int) < ((d + 1 : Nat) : Int)) = False := eq_false (by omega)
      simp only [go_sem, ↓reduceIte, Nat.reduceLT, Nat.reduceEqDiff, Nat.reduceAdd, Nat.reduceMul, Nat.reduceLeDiff, Nat.reduceBEq, Nat.reduceSub, Int.reduceLT, Int.reduceLE, Int.reduceEq, Int.reduceToNat, reduceCtorEq, Nat.lt_irrefl, Nat.le_refl, t2, t3, t13, t14, t15, g8]
      rcases h6 with ⟨hk0, h6⟩ | ⟨hk0, h6⟩
      · simp only [go_sem, ↓reduceIte, Nat.reduceLT, Nat.reduceEqDiff, Nat.reduceAdd, Nat.reduceMul, Nat.reduceLeDiff, Nat.reduceBEq, Nat.reduceSub, Int.reduceLT, Int.reduceLE, Int.reduceEq, Int.reduceToNat, reduceCtorEq, Nat.lt_irrefl, Nat.le_refl, h6, t2, t3]
        refine hQ _ _ ?_ ?_ rfl
        · rw [hks, hk0]; rfl
        · rw [hkh, hk0]; rfl
      · have hpos : (0 : Int) < (((kids L).length : Nat) : Int) := by
          have := List.length_pos_iff.2 hk0; omega
        simp only [go_sem, ↓reduceIte, Nat.reduceLT, Nat.reduceEqDiff, Nat.reduceAdd, Nat.reduceMul, Nat.reduceLeDiff, Nat.reduceBEq, Nat.reduceSub, Int.reduceLT, Int.reduceLE, Int.reduceEq, Int.reduceToNat, reduceCtorEq, Nat.lt_irrefl, Nat.le_refl, h6, vrows_len, hpos]
        rw [gone_sc_goto (rest := .seq .skip x86) (by rfl)]
        simp only [go_sem, ↓reduceIte, Nat.reduceLT, Nat.reduceEqDiff, Nat.reduceAdd, Nat.reduceMul, Nat.reduceLeDiff, Nat.reduceBEq, Nat.reduceSub, Int.reduceLT, Int.reduceLE, Int.reduceEq, Int.reduceToNat, reduceCtorEq, Nat.lt_irrefl, Nat.le_refl]
        refine ih (kids L) (s + L.length) (d + 1) (.one (.lin 31 (bx 31).g 40 (Vl.rows (kids L)))) _ _ (by omega) hk0 (kids_fine hf) (by omega) (by omega) rfl (by rw [lenLA_lin, vrows_len]) (fun n => rfl) t2 t3 ?_
        intro tm bx q2 q3 q4
        refine hQ tm bx ?_ ?_ q4
        · rw [q2, show s + L.length + Vl.sizes (kids L) = s + Vl.sizes L by omega]
        · rw [q3, show d + 1 + Vl.hts (kids L) = d + Vl.hts L by omega]
  · exact ⟨Nat.zero_le _, rfl, h2, rfl, rfl, rfl, rfl, Or.inl ⟨rfl, rfl⟩⟩

theorem f86_ok {v : Vl} (hf : Fine v) (hs : v.size ≤ 2000) (hh : v.ht ≤ 8) : Ev E false 86 [v.t] [] (.tup [tI (v.size : Nat), tI (v.ht : Nat), tB true]) [] := by
  refine ev_of_wp (d := d86) rfl rfl (Nat.le_of_ble_eq_true rfl) ?_
  obtain ⟨k, n, p, l, rfl⟩ := vmk_at v
  simp only [go_sem, ↓reduceIte, Nat.reduceLT, Nat.reduceEqDiff, Nat.reduceAdd, Nat.reduceMul, Nat.reduceLeDiff, Nat.reduceBEq, Nat.reduceSub, Int.reduceLT, Int.reduceLE, Int.reduceEq, Int.reduceToNat, reduceCtorEq, Nat.lt_irrefl, Nat.le_refl, d86, c86_eq, r86a, b86, r86b, Vl.t, Vl.row]
  have e1 : (Vl.mk k n p l).size = Vl.sizes [Vl.mk k n p l] := by simp only [Vl.sizes]; rfl
  have e2 : (Vl.mk k n p l).ht = Vl.hts [Vl.mk k n p l] := by
    have e : ¬ (Vl.mk k n p l).ht ≤ Vl.hts [] := by simp only [Vl.ht, Vl.hts]; omega
    rw [Vl.hts, if_neg e]
  rw [e1] at hs ⊢
  rw [e2] at hh ⊢
  refine lv_86 _ (Vl.hts [Vl.mk k n p l]) [Vl.mk k n p l] 0 0 (.one (.v (.sl (Vl.rows [Vl.mk k n p l])))) _ _ (Nat.le_refl _) (by simp) (by intro v hv; rw [List.mem_singleton.1 hv]; exact hf) (by omega) (by omega) rfl rfl (fun _ => rfl) rfl rfl ?_
  intro tm bx q2 q3 q4
  rw [Nat.zero_add] at q2 q3
  simp only [go_sem, ↓reduceIte, Nat.reduceLT, Nat.reduceEqDiff, Nat.reduceAdd, Nat.reduceMul, Nat.reduceLeDiff, Nat.reduceBEq, Nat.reduceSub, Int.reduceLT, Int.reduceLE, Int.reduceEq, Int.reduceToNat, reduceCtorEq, Nat.lt_irrefl, Nat.le_refl, q2, q3, q4]

theorem f61_ok {v : Vl} (hf : Fine v) (hs : v.size ≤ 2000) (hh : v.ht ≤ 8) : Ev E false 61 [v.t] [] (tI 0) [] := by
  have h := f86_ok hf hs hh
  obtain ⟨k, n, p, l, rfl⟩ := vmk_at v
  refine ev_of_wp (d := d61) rfl rfl (Nat.le_of_ble_eq_true rfl) ?_
  simp only [go_sem, ↓reduceIte, Nat.reduceLT, Nat.reduceEqDiff, Nat.reduceAdd, Nat.reduceMul, Nat.reduceLeDiff, Nat.reduceBEq, Nat.reduceSub, Int.reduceLT, Int.reduceLE, Int.reduceEq, Int.reduceToNat, reduceCtorEq, Nat.lt_irrefl, Nat.le_refl, d61, c61, Vl.t, Vl.row]
  refine call0 (h) (by rfl) (by rfl) (by rfl) (by rfl) ?_
  simp only [go_sem, ↓reduceIte, Nat.reduceLT, Nat.reduceEqDiff, Nat.reduceAdd, Nat.reduceMul, Nat.reduceLeDiff, Nat.reduceBEq, Nat.reduceSub, Int.reduceLT, Int.reduceLE, Int.reduceEq, Int.reduceToNat, reduceCtorEq, Nat.lt_irrefl, Nat.le_refl]

end Go.Dev.CB

/- Values of a type. -/
namespace Go.Dev.CB
open Go Go.Dev Go.Dev.Wk
set_option maxRecDepth 100000

inductive Fit : Ty → Vl → Prop
  | no (l : List Ty) (n : Int) (p : Bool) : Fit (.mk 9 l) (.mk 8 n p [])
  | same (k n : Int) (p : Bool) (l : List Ty) (vs : List Vl) (u : Nat → Ty) (h1 : ∀ i, i < vs.length → l[min i (l.length - 1)]? = some (u i)) (h2 : ∀ i (hi : i < vs.length), Fit (u i) vs[i]) : Fit (.mk k l) (.mk k n p vs)

theorem vsize_mem {l : List Vl} {t : Vl} (h : t ∈ l) : t.size ≤ Vl.sizes l := by
  induction l with
  | nil => cases h
  | cons a l ih =>
    simp only [Vl.sizes]
    cases h with
    | head => omega
    | tail _ h => have := ih h; omega

theorem f62_ok (N : Nat) : ∀ (t : Ty) (v : Vl), v.size ≤ N → N < 100000 → t.size < 100000 → Fit t v → Ev E false 62 [t.t, v.t] [] (tB true) [] := by
  induction N with
  | zero => intro t v h; obtain ⟨k, n, p, l, rfl⟩ := vmk_at v; simp only [Vl.size] at h; omega
  | succ N ih =>
  intro t v hv hN ht hf
  cases hf with
  | no l n p =>
    refine ev_of_wp (d := d62) rfl rfl (Nat.le_of_ble_eq_true rfl) ?_
    simp only [go_sem, ↓reduceIte, Nat.reduceLT, Nat.reduceEqDiff, Nat.reduceAdd, Nat.reduceMul, Nat.reduceLeDiff, Nat.reduceBEq, Nat.reduceSub, Int.reduceLT, Int.reduceLE, Int.reduceEq, Int.reduceToNat, reduceCtorEq, Nat.lt_irrefl, Nat.le_refl, d62, c62, Ty.t, Ty.row, Vl.t, Vl.row]
  | same k n p l vs u h1 h2 =>
    simp only [Vl.size] at hv
    simp only [Ty.size] at ht
    have hl := vlen_size vs
    have hlt := len_size l
    refine ev_of_wp (d := d62) rfl rfl (Nat.le_of_ble_eq_true rfl) ?_
    rcases Classical.em (k = 9) with h9 | h9
    all_goals simp only [go_sem, ↓reduceIte, Nat.reduceLT, Nat.reduceEqDiff, Nat.reduceAdd, Nat.reduceMul, Nat.reduceLeDiff, Nat.reduceBEq, Nat.reduceSub, Int.reduceLT, Int.reduceLE, Int.reduceEq, Int.reduceToNat, reduceCtorEq, Nat.lt_irrefl, Nat.le_refl, d62, c62, Ty.t, Ty.row, Vl.t, Vl.row, h9, vrows_len]
    all_goals
      refine loop_ind (I := fun (j : Nat) tm bx fo => j ≤ vs.length ∧ fo = [] ∧ tm 2 = .one (.ref (.loc 2 1) 0) ∧ (∃ kk, bx 2 = ⟨1, 24, [.v (.s (.int .i64 kk)), .v (.sl (Ty.rows l))]⟩) ∧ tm 23 = .one (.v (.sl (Vl.rows vs))) ∧ tm 24 = tI vs.length ∧ tm 25 = tI j) (μ := fun j => vs.length - j) ?_ 0 _ _ _ ⟨Nat.zero_le _, rfl, rfl, ⟨_, rfl⟩, rfl, rfl, rfl⟩
      rintro j tm bx fo ⟨hj, rfl, t2, ⟨kk, b2⟩, t23, t24, t25⟩ IH
      by_cases hjl : j < vs.length
      · have e3 := vrows_at hjl
        have hu := h1 j hjl
        have hm : min j (l.length - 1) < l.length := (List.getElem?_eq_some_iff.1 hu).1
        have e4 := rows_at hm
        have e5 : l[min j (l.length - 1)] = u j := by rw [List.getElem?_eq_getElem hm] at hu; exact Option.some.inj hu
        rw [e5] at e4
        have hus : (u j).size ≤ Ty.sizes l := by rw [← e5]; exact size_at hm
        have e6 := ih (u j) vs[j] (by have := vsize_mem (List.getElem_mem hjl); omega) (by omega) (by omega) (h2 j hjl)
        obtain ⟨k', n', p', l', he⟩ := vmk_at vs[j]
        obtain ⟨ku, lu, heu⟩ := mk_at (u j)
        rw [he] at e3 e6
        rw [heu] at e4 e6
        have w1 : IntKind.i64.wrap (((l.length : Nat) : Int) - 1) = ((l.length - 1 : Nat) : Int) := by rw [wrap_id (by omega) (by omega)]; omega
        have hmi : (if l.length - 1 < j then ((l.length - 1 : Nat) : Int) else (j : Int)) = ((min j (l.length - 1) : Nat) : Int) := by
          split
          · rw [Nat.min_eq_right (by omega)]
          · rw [Nat.min_eq_left (by omega)]
        simp only [go_sem, ↓reduceIte, Nat.reduceLT, Nat.reduceEqDiff, Nat.reduceAdd, Nat.reduceMul, Nat.reduceLeDiff, Nat.reduceBEq, Nat.reduceSub, Int.reduceLT, Int.reduceLE, Int.reduceEq, Int.reduceToNat, reduceCtorEq, Nat.lt_irrefl, Nat.le_refl, t2, b2, t23, t24, t25, hjl, e3, Vl.row, rows_len, w1, hmi, e4, Ty.row]
        refine call0 (e6) (by rfl) (by rfl) (by rfl) (by rfl) ?_
        simp only [go_sem, ↓reduceIte, Nat.reduceLT, Nat.reduceEqDiff, Nat.reduceAdd, Nat.reduceMul, Nat.reduceLeDiff, Nat.reduceBEq, Nat.reduceSub, Int.reduceLT, Int.reduceLE, Int.reduceEq, Int.reduceToNat, reduceCtorEq, Nat.lt_irrefl, Nat.le_refl, t25]
        refine IH (j + 1) _ _ _ (by omega) ?_
        refine ⟨by omega, rfl, t2, ⟨kk, b2⟩, t23, t24, ?_⟩
        show T.one (C.v (V.s (Value.int IntKind.i64 (IntKind.i64.wrap (j + 1))))) = _
        rw [wrap_succ (by omega)]; rfl
      · clear IH
        simp only [go_sem, ↓reduceIte, Nat.reduceLT, Nat.reduceEqDiff, Nat.reduceAdd, Nat.reduceMul, Nat.reduceLeDiff, Nat.reduceBEq, Nat.reduceSub, Int.reduceLT, Int.reduceLE, Int.reduceEq, Int.reduceToNat, reduceCtorEq, Nat.lt_irrefl, Nat.le_refl, t2, b2, t23, t24, t25, hjl]

end Go.Dev.CB

/- Has, and what is created. -/
namespace Go.Dev.CB
open Go Go.Dev Go.Dev.Wk
set_option maxRecDepth 100000

/-- A value that is right and not great. -/
def Good1 (v : Vl) : Prop := Fine v ∧ v.size ≤ 2000 ∧ v.ht ≤ 8

def obT (t : Ty) : Ob := ⟨0, 24, t.row.map .v⟩

theorem f60_ok {t : Ty} {v : Vl} (ht : t.size < 100000) (hv : Good1 v) (hf : Fit t v) : Ev E false 60 [v.t, .one (.ref (.fo 0) 0)] [obT t] (tB false) [obT t] := by
  have h1 := f61_ok hv.1 hv.2.1 hv.2.2
  have h2 := f62_ok v.size t v (Nat.le_refl _) (by have := hv.2.1; omega) ht hf
  obtain ⟨k, n, p, l, rfl⟩ := vmk_at v
  obtain ⟨kt, lt, rfl⟩ := mk_at t
  refine ev_of_wp (d := d60) rfl rfl (Nat.le_of_ble_eq_true rfl) ?_
  simp only [go_sem, ↓reduceIte, Nat.reduceLT, Nat.reduceEqDiff, Nat.reduceAdd, Nat.reduceMul, Nat.reduceLeDiff, Nat.reduceBEq, Nat.reduceSub, Int.reduceLT, Int.reduceLE, Int.reduceEq, Int.reduceToNat, reduceCtorEq, Nat.lt_irrefl, Nat.le_refl, d60, c60, Vl.t, Vl.row, obT, Ty.row]
  refine call0 (h1) (by rfl) (by rfl) (by rfl) (by rfl) ?_
  simp only [go_sem, ↓reduceIte, Nat.reduceLT, Nat.reduceEqDiff, Nat.reduceAdd, Nat.reduceMul, Nat.reduceLeDiff, Nat.reduceBEq, Nat.reduceSub, Int.reduceLT, Int.reduceLE, Int.reduceEq, Int.reduceToNat, reduceCtorEq, Nat.lt_irrefl, Nat.le_refl]
  refine call0 (h2) (by rfl) (by rfl) (by rfl) (by rfl) ?_
  simp only [go_sem, ↓reduceIte, Nat.reduceLT, Nat.reduceEqDiff, Nat.reduceAdd, Nat.reduceMul, Nat.reduceLeDiff, Nat.reduceBEq, Nat.reduceSub, Int.reduceLT, Int.reduceLE, Int.reduceEq, Int.reduceToNat, reduceCtorEq, Nat.lt_irrefl, Nat.le_refl]

theorem f85_ok {t : Ty} {vs : List Vl} (ht : t.size < 100000) (hl : vs.length < 100000) (hv : ∀ v ∈ vs, Good1 v ∧ Fit t v) : Ev E false 85 [.one (.v (.sl (Vl.rows vs))), .one (.fn (.func 60) [] [.ref (.fo 0) 0])] [obT t] (tI (-1)) [obT t] := by
  obtain ⟨kt, lt, rfl⟩ := mk_at t
  refine ev_of_wp (d := d85) rfl rfl (Nat.le_of_ble_eq_true rfl) ?_
  simp only [go_sem, ↓reduceIte, Nat.reduceLT, Nat.reduceEqDiff, Nat.reduceAdd, Nat.reduceMul, Nat.reduceLeDiff, Nat.reduceBEq, Nat.reduceSub, Int.reduceLT, Int.reduceLE, Int.reduceEq, Int.reduceToNat, reduceCtorEq, Nat.lt_irrefl, Nat.le_refl, d85, c85, obT, Ty.row, vrows_len]
  refine loop_ind (I := fun (j : Nat) tm bx fo => j ≤ vs.length ∧ fo = [obT (.mk kt lt)] ∧ tm 0 = .one (.v (.sl (Vl.rows vs))) ∧ tm 1 = .one (.fn (.func 60) [] [.ref (.fo 0) 0]) ∧ tm 7 = tI vs.length ∧ tm 8 = tI j) (μ := fun j => vs.length - j) ?_ 0 _ _ _ ⟨Nat.zero_le _, rfl, rfl, rfl, rfl, rfl⟩
  rintro j tm bx fo ⟨hj, rfl, h0, h1, h7, h8⟩ IH
  by_cases hjl : j < vs.length
  · have e3 := vrows_at hjl
    have hm := hv vs[j] (List.getElem_mem hjl)
    have e5 := f60_ok ht hm.1 hm.2
    obtain ⟨k, n, p, l, he⟩ := vmk_at vs[j]
    rw [he] at e3 e5
    simp only [go_sem, ↓reduceIte, Nat.reduceLT, Nat.reduceEqDiff, Nat.reduceAdd, Nat.reduceMul, Nat.reduceLeDiff, Nat.reduceBEq, Nat.reduceSub, Int.reduceLT, Int.reduceLE, Int.reduceEq, Int.reduceToNat, reduceCtorEq, Nat.lt_irrefl, Nat.le_refl, h0, h1, h7, h8, hjl, e3, Vl.row]
    refine callK (by rfl) ?_
    simp only [go_sem, ↓reduceIte, Nat.reduceLT, Nat.reduceEqDiff, Nat.reduceAdd, Nat.reduceMul, Nat.reduceLeDiff, Nat.reduceBEq, Nat.reduceSub, Int.reduceLT, Int.reduceLE, Int.reduceEq, Int.reduceToNat, reduceCtorEq, Nat.lt_irrefl, Nat.le_refl, obT, Ty.row]
    refine callE (e5) (by rfl) ?_
    simp only [go_sem, ↓reduceIte, Nat.reduceLT, Nat.reduceEqDiff, Nat.reduceAdd, Nat.reduceMul, Nat.reduceLeDiff, Nat.reduceBEq, Nat.reduceSub, Int.reduceLT, Int.reduceLE, Int.reduceEq, Int.reduceToNat, reduceCtorEq, Nat.lt_irrefl, Nat.le_refl, obT, Ty.row, h8]
    refine IH (j + 1) _ _ _ (by omega) ?_
    refine ⟨by omega, rfl, h0, h1, h7, ?_⟩
    show T.one (C.v (V.s (Value.int IntKind.i64 (IntKind.i64.wrap (j + 1))))) = _
    rw [wrap_succ (by omega)]; rfl
  · simp only [go_sem, ↓reduceIte, Nat.reduceLT, Nat.reduceEqDiff, Nat.reduceAdd, Nat.reduceMul, Nat.reduceLeDiff, Nat.reduceBEq, Nat.reduceSub, Int.reduceLT, Int.reduceLE, Int.reduceEq, Int.reduceToNat, reduceCtorEq, Nat.lt_irrefl, Nat.le_refl, h0, h1, h7, h8, hjl, obT, Ty.row]

theorem f59_ok {t : Ty} {vs : List Vl} (ht : t.size < 100000) (hl : vs.length < 100000) (hv : ∀ v ∈ vs, Good1 v ∧ Fit t v) : Ev E false 59 [.one (.v (.sl (Vl.rows vs))), .one (.fn (.func 60) [] [.ref (.fo 0) 0])] [obT t] (tB false) [obT t] := by
  have h := f85_ok ht hl hv
  obtain ⟨kt, lt, rfl⟩ := mk_at t
  refine ev_of_wp (d := d59) rfl rfl (Nat.le_of_ble_eq_true rfl) ?_
  simp only [go_sem, ↓reduceIte, Nat.reduceLT, Nat.reduceEqDiff, Nat.reduceAdd, Nat.reduceMul, Nat.reduceLeDiff, Nat.reduceBEq, Nat.reduceSub, Int.reduceLT, Int.reduceLE, Int.reduceEq, Int.reduceToNat, reduceCtorEq, Nat.lt_irrefl, Nat.le_refl, d59, c59, obT, Ty.row]
  refine callK (by rfl) ?_
  simp only [go_sem, ↓reduceIte, Nat.reduceLT, Nat.reduceEqDiff, Nat.reduceAdd, Nat.reduceMul, Nat.reduceLeDiff, Nat.reduceBEq, Nat.reduceSub, Int.reduceLT, Int.reduceLE, Int.reduceEq, Int.reduceToNat, reduceCtorEq, Nat.lt_irrefl, Nat.le_refl]
  refine callE (h) (by rfl) ?_
  simp only [go_sem, ↓reduceIte, Nat.reduceLT, Nat.reduceEqDiff, Nat.reduceAdd, Nat.reduceMul, Nat.reduceLeDiff, Nat.reduceBEq, Nat.reduceSub, Int.reduceLT, Int.reduceLE, Int.reduceEq, Int.reduceToNat, reduceCtorEq, Nat.lt_irrefl, Nat.le_refl, obT, Ty.row]

theorem f33_ok {t : Ty} {vs : List Vl} (hok : t.ok 6 = true) (hl : vs.length < 100000) (hv : ∀ v ∈ vs, Good1 v ∧ Fit t v) : Ev E false 33 [t.t, .one (.v (.sl (Vl.rows vs)))] [] (tB true) [] := by
  have ht := ok_size 6 t hok
  have h17 := f17_ok t (by omega)
  rw [hok, if_pos rfl] at h17
  have h := f59_ok (by omega) hl hv
  obtain ⟨kt, lt, rfl⟩ := mk_at t
  refine ev_of_wp (d := d33) rfl rfl (Nat.le_of_ble_eq_true rfl) ?_
  simp only [go_sem, ↓reduceIte, Nat.reduceLT, Nat.reduceEqDiff, Nat.reduceAdd, Nat.reduceMul, Nat.reduceLeDiff, Nat.reduceBEq, Nat.reduceSub, Int.reduceLT, Int.reduceLE, Int.reduceEq, Int.reduceToNat, reduceCtorEq, Nat.lt_irrefl, Nat.le_refl, d33, c33, Ty.t, Ty.row]
  refine call0 (h17) (by rfl) (by rfl) (by rfl) (by rfl) ?_
  simp only [go_sem, ↓reduceIte, Nat.reduceLT, Nat.reduceEqDiff, Nat.reduceAdd, Nat.reduceMul, Nat.reduceLeDiff, Nat.reduceBEq, Nat.reduceSub, Int.reduceLT, Int.reduceLE, Int.reduceEq, Int.reduceToNat, reduceCtorEq, Nat.lt_irrefl, Nat.le_refl]
  refine callK (by rfl) ?_
  simp only [go_sem, ↓reduceIte, Nat.reduceLT, Nat.reduceEqDiff, Nat.reduceAdd, Nat.reduceMul, Nat.reduceLeDiff, Nat.reduceBEq, Nat.reduceSub, Int.reduceLT, Int.reduceLE, Int.reduceEq, Int.reduceToNat, reduceCtorEq, Nat.lt_irrefl, Nat.le_refl]
  refine callE (h) (by rfl) ?_
  simp only [go_sem, ↓reduceIte, Nat.reduceLT, Nat.reduceEqDiff, Nat.reduceAdd, Nat.reduceMul, Nat.reduceLeDiff, Nat.reduceBEq, Nat.reduceSub, Int.reduceLT, Int.reduceLE, Int.reduceEq, Int.reduceToNat, reduceCtorEq, Nat.lt_irrefl, Nat.le_refl, obT, Ty.row]

/-! ### What is created -/

def vi (n : Int) : Vl := .mk 2 n false []

mutual
def Co.cv : Co → Ty → Vl
  | .mk nm k ps, t =>
    if nid nm = 3 then .mk 5 0 true []
    else if nid nm = 4 then .mk 8 0 false []
    else if nid nm = 5 then .mk 8 0 false []
    else if nid nm = 2 then .mk 6 0 false [vi 0, vi 0]
    else if nid nm = 9 then .mk 6 0 false (Co.cvs ps t)
    else .mk ((Co.tp (.mk nm k ps) t).getD (num, num)).1.kind 0 false []
def Co.cvs : List Co → Ty → List Vl
  | [], _ => []
  | p :: ps, t => p.cv t :: Co.cvs ps t
end
theorem cv_eq (nm : ByteArray) (k : Int) (ps : List Co) (t : Ty) : Co.cv (.mk nm k ps) t = if nid nm = 3 then .mk 5 0 true []
    else if nid nm = 4 then .mk 8 0 false []
    else if nid nm = 5 then .mk 8 0 false []
    else if nid nm = 2 then .mk 6 0 false [vi 0, vi 0]
    else if nid nm = 9 then .mk 6 0 false (Co.cvs ps t)
    else .mk ((Co.tp (.mk nm k ps) t).getD (num, num)).1.kind 0 false [] := rfl

theorem f64_ok (n : Int) : Ev E false 64 [tI n] [] (vi n).t [] := by
  refine ev_of_wp (d := d64) rfl rfl (Nat.le_of_ble_eq_true rfl) ?_
  simp only [go_sem, ↓reduceIte, Nat.reduceLT, Nat.reduceEqDiff, Nat.reduceAdd, Nat.reduceMul, Nat.reduceLeDiff, Nat.reduceBEq, Nat.reduceSub, Int.reduceLT, Int.reduceLE, Int.reduceEq, Int.reduceToNat, reduceCtorEq, Nat.lt_irrefl, Nat.le_refl, d64, c64, vi, Vl.t, Vl.row, pV, Vl.rows]

theorem f63_10 : Ev E false 63 [tI 1, tI 0] [] (Vl.mk 5 0 true []).t [] := ⟨60, by kernel_rfl⟩

theorem f34_ok (d : Nat) : ∀ (c : Co) (t : Ty), c.rt d = true → Ev E false 34 [opT c t] [] (c.cv t).t [] := by
  induction d with
  | zero => intro c t h; cases c; simp [Co.rt] at h
  | succ d ih =>
  intro c t hc
  obtain ⟨nm, k, ps, rfl⟩ := cmk_at c
  obtain ⟨hn, hps, hbo⟩ := rt_name hc
  obtain ⟨kt, lt, rfl⟩ := mk_at t
  refine ev_of_wp (d := d34) rfl rfl (Nat.le_of_ble_eq_true rfl) ?_
  rw [opT, op_eq]
  by_cases h9 : nid nm = 9
  · obtain ⟨a, b, d', hd', rfl, rfl, ha, hb⟩ := hbo h9
    obtain rfl : d = d' := by omega
    have ia := ih a (.mk kt lt) ha
    have ib := ih b (.mk kt lt) hb
    rw [opT] at ia ib
    rw [cv_eq, if_neg (by omega), if_neg (by omega), if_neg (by omega), if_neg (by omega), if_pos h9]
    generalize ((Co.tp (.mk nm 0 [a, b]) (.mk kt lt)).getD (num, num)).1 = A
    generalize ((Co.tp (.mk nm 0 [a, b]) (.mk kt lt)).getD (num, num)).2 = O
    obtain ⟨kA, lA, rfl⟩ := mk_at A
    obtain ⟨kO, lO, rfl⟩ := mk_at O
    obtain ⟨k1, n1, p1, l1, e1⟩ := vmk_at (a.cv (.mk kt lt))
    obtain ⟨k2, n2, p2, l2, e2⟩ := vmk_at (b.cv (.mk kt lt))
    rw [e1] at ia
    rw [e2] at ib
    simp only [go_sem, ↓reduceIte, Nat.reduceLT, Nat.reduceEqDiff, Nat.reduceAdd, Nat.reduceMul, Nat.reduceLeDiff, Nat.reduceBEq, Nat.reduceSub, Int.reduceLT, Int.reduceLE, Int.reduceEq, Int.reduceToNat, reduceCtorEq, Nat.lt_irrefl, Nat.le_refl, d34, c34, opRow, Ty.row, h9, Co.ops]
    refine call0 (ia) (by rfl) (by rfl) (by rfl) (by rfl) ?_
    simp only [go_sem, ↓reduceIte, Nat.reduceLT, Nat.reduceEqDiff, Nat.reduceAdd, Nat.reduceMul, Nat.reduceLeDiff, Nat.reduceBEq, Nat.reduceSub, Int.reduceLT, Int.reduceLE, Int.reduceEq, Int.reduceToNat, reduceCtorEq, Nat.lt_irrefl, Nat.le_refl]
    refine call0 (ib) (by rfl) (by rfl) (by rfl) (by rfl) ?_
    simp only [go_sem, ↓reduceIte, Nat.reduceLT, Nat.reduceEqDiff, Nat.reduceAdd, Nat.reduceMul, Nat.reduceLeDiff, Nat.reduceBEq, Nat.reduceSub, Int.reduceLT, Int.reduceLE, Int.reduceEq, Int.reduceToNat, reduceCtorEq, Nat.lt_irrefl, Nat.le_refl, Vl.t, Vl.row, Co.cvs, e1, e2, Vl.rows, pV]
  · obtain rfl := hps h9
    rw [cv_eq]
    generalize ((Co.tp (.mk nm k []) (.mk kt lt)).getD (num, num)).1 = A
    generalize ((Co.tp (.mk nm k []) (.mk kt lt)).getD (num, num)).2 = O
    obtain ⟨kA, lA, rfl⟩ := mk_at A
    obtain ⟨kO, lO, rfl⟩ := mk_at O
    rcases (show nid nm = 0 ∨ nid nm = 1 ∨ nid nm = 2 ∨ nid nm = 3 ∨ nid nm = 4 ∨ nid nm = 5 ∨ nid nm = 6 ∨ nid nm = 7 ∨ nid nm = 8 by omega) with h | h | h | h | h | h | h | h | h
    case inr.inr.inl =>
      simp only [go_sem, ↓reduceIte, Nat.reduceLT, Nat.reduceEqDiff, Nat.reduceAdd, Nat.reduceMul, Nat.reduceLeDiff, Nat.reduceBEq, Nat.reduceSub, Int.reduceLT, Int.reduceLE, Int.reduceEq, Int.reduceToNat, reduceCtorEq, Nat.lt_irrefl, Nat.le_refl, d34, c34, opRow, Ty.row, h]
      refine call0 (f64_ok 0) (by rfl) (by rfl) (by rfl) (by rfl) ?_
      simp only [go_sem, ↓reduceIte, Nat.reduceLT, Nat.reduceEqDiff, Nat.reduceAdd, Nat.reduceMul, Nat.reduceLeDiff, Nat.reduceBEq, Nat.reduceSub, Int.reduceLT, Int.reduceLE, Int.reduceEq, Int.reduceToNat, reduceCtorEq, Nat.lt_irrefl, Nat.le_refl]
      refine call0 (f64_ok 0) (by rfl) (by rfl) (by rfl) (by rfl) ?_
      simp only [go_sem, ↓reduceIte, Nat.reduceLT, Nat.reduceEqDiff, Nat.reduceAdd, Nat.reduceMul, Nat.reduceLeDiff, Nat.reduceBEq, Nat.reduceSub, Int.reduceLT, Int.reduceLE, Int.reduceEq, Int.reduceToNat, reduceCtorEq, Nat.lt_irrefl, Nat.le_refl, Vl.t, Vl.row, vi, pV, Vl.rows]
    case inr.inr.inr.inl =>
      simp only [go_sem, ↓reduceIte, Nat.reduceLT, Nat.reduceEqDiff, Nat.reduceAdd, Nat.reduceMul, Nat.reduceLeDiff, Nat.reduceBEq, Nat.reduceSub, Int.reduceLT, Int.reduceLE, Int.reduceEq, Int.reduceToNat, reduceCtorEq, Nat.lt_irrefl, Nat.le_refl, d34, c34, opRow, Ty.row, h]
      refine call0 (f63_10) (by rfl) (by rfl) (by rfl) (by rfl) ?_
      simp only [go_sem, ↓reduceIte, Nat.reduceLT, Nat.reduceEqDiff, Nat.reduceAdd, Nat.reduceMul, Nat.reduceLeDiff, Nat.reduceBEq, Nat.reduceSub, Int.reduceLT, Int.reduceLE, Int.reduceEq, Int.reduceToNat, reduceCtorEq, Nat.lt_irrefl, Nat.le_refl, Vl.t, Vl.row, pV, Vl.rows]
    all_goals simp only [go_sem, ↓reduceIte, Nat.reduceLT, Nat.reduceEqDiff, Nat.reduceAdd, Nat.reduceMul, Nat.reduceLeDiff, Nat.reduceBEq, Nat.reduceSub, Int.reduceLT, Int.reduceLE, Int.reduceEq, Int.reduceToNat, reduceCtorEq, Nat.lt_irrefl, Nat.le_refl, d34, c34, opRow, Ty.row, h, Vl.t, Vl.row, pV, Vl.rows, Ty.kind]

end Go.Dev.CB

/- The law's function. -/
namespace Go.Dev.CB
open Go Go.Dev Go.Dev.Wk Go.RowKit
set_option maxRecDepth 100000

theorem fine_leaf {k n : Int} {p : Bool} (h : Own k n p 0) : Fine (.mk k n p []) := .mk h (fun v hv => by cases hv)
theorem fine_vi (n : Int) : Fine (vi n) := fine_leaf (.int n)
theorem fine_two {a b : Vl} (ha : Fine a) (hb : Fine b) : Fine (.mk 6 0 false [a, b]) := .mk .pair (fun v hv => by
  rcases List.mem_cons.1 hv with rfl | hv
  · exact ha
  · rw [List.mem_singleton.1 hv]; exact hb)
theorem fit_leaf (k n : Int) (p : Bool) (l : List Ty) : Fit (.mk k l) (.mk k n p []) := .same k n p l [] (fun _ => num) (fun i hi => by simp at hi) (fun i hi => by simp at hi)
theorem fit_two {a b : Ty} {x y : Vl} (ha : Fit a x) (hb : Fit b y) (n : Int) (p : Bool) : Fit (pr a b) (.mk 6 n p [x, y]) := by
  refine .same 6 n p [a, b] [x, y] (fun i => if i = 0 then a else b) (fun i hi => ?_) (fun i hi => ?_)
  · match i, hi with
    | 0, _ => rfl
    | 1, _ => rfl
    | i + 2, hi => simp at hi; omega
  · match i, hi with
    | 0, _ => exact ha
    | 1, _ => exact hb
    | i + 2, hi => simp at hi; omega

theorem chk_raw {x : Option (Ty × Ty)} {a o : Ty} (h : chk x = some (a, o)) : x = some (a, o) := by
  unfold chk at h
  split at h
  · split at h
    · split at h
      · cases h; rfl
      · cases h
    · cases h
  · cases h

theorem cv_props (d : Nat) : ∀ (c : Co) (t a o : Ty), c.rt d = true → c.tp t = some (a, o) → Fine (c.cv t) ∧ (c.cv t).size + 1 ≤ 2 ^ (d + 1) ∧ (c.cv t).ht ≤ d + 1 ∧ Fit a (c.cv t) := by
  induction d with
  | zero => intro c t a o h; cases c; simp [Co.rt] at h
  | succ d ih =>
  intro c t a o hc htp
  obtain ⟨nm, k, ps, rfl⟩ := cmk_at c
  obtain ⟨hn, hps, hbo⟩ := rt_name hc
  have h2 : 2 ≤ 2 ^ (d + 1) := by rw [Nat.pow_succ]; have := Nat.two_pow_pos d; omega
  have h3 : 2 ^ (d + 1 + 1) = 2 * 2 ^ (d + 1) := by rw [Nat.pow_succ]; omega
  by_cases h9 : nid nm = 9
  · obtain ⟨x, y, d', hd', rfl, rfl, ha, hb⟩ := hbo h9
    obtain rfl : d = d' := by omega
    rw [tp_eq, if_pos h9] at htp
    have := chk_raw htp
    simp only [Co.tps, two] at this
    split at this
    · rename_i a1 o1 a2 o2 e1
      simp only [List.cons.injEq, and_true] at e1
      obtain ⟨f1, f2, f3, f4⟩ := ih x t _ _ ha e1.1
      obtain ⟨g1, g2, g3, g4⟩ := ih y t _ _ hb e1.2
      simp only [Option.some.injEq, Prod.mk.injEq] at this
      obtain ⟨rfl, rfl⟩ := this
      rw [cv_eq, if_neg (by omega), if_neg (by omega), if_neg (by omega), if_neg (by omega), if_pos h9]
      refine ⟨fine_two f1 g1, ?_, ?_, fit_two f4 g4 _ _⟩
      · simp only [Vl.size, Co.cvs, Vl.sizes]; omega
      · show 1 + (if (x.cv t).ht ≤ (if (y.cv t).ht ≤ 0 then 0 else (y.cv t).ht) then (if (y.cv t).ht ≤ 0 then 0 else (y.cv t).ht) else (x.cv t).ht) ≤ _
        by_cases q1 : (y.cv t).ht ≤ 0 <;> simp only [q1, if_true, if_false]
        all_goals split
        all_goals omega
    · cases this
  · obtain rfl := hps h9
    have hk : ((Co.tp (.mk nm k []) t).getD (num, num)).1 = a := by rw [htp]; rfl
    rw [tp_eq, if_neg h9] at htp
    have hr := chk_raw htp
    rw [cv_eq, hk]
    have leafs : ∀ (k n : Int) (p : Bool), (Vl.mk k n p []).size + 1 ≤ 2 ^ (d + 1 + 1) ∧ (Vl.mk k n p []).ht ≤ d + 1 + 1 := fun k n p => by
      simp only [Vl.size, Vl.sizes, Vl.ht, Vl.hts]; omega
    rcases (show nid nm = 0 ∨ nid nm = 1 ∨ nid nm = 2 ∨ nid nm = 3 ∨ nid nm = 4 ∨ nid nm = 5 ∨ nid nm = 6 ∨ nid nm = 7 ∨ nid nm = 8 by omega) with h | h | h | h | h | h | h | h | h
    · rw [h] at hr; simp [raw] at hr
      obtain ⟨rfl, rfl⟩ := hr
      simp only [h]
      exact ⟨fine_vi 0, (leafs 2 0 false).1, (leafs 2 0 false).2, fit_leaf 2 0 false []⟩
    · rw [h] at hr; simp [raw] at hr
      obtain ⟨_, rfl, rfl⟩ := hr
      simp only [h]
      exact ⟨fine_vi 0, (leafs 2 0 false).1, (leafs 2 0 false).2, fit_leaf 2 0 false []⟩
    · rw [h] at hr; simp [raw] at hr
      obtain ⟨_, rfl, rfl⟩ := hr
      simp only [h]
      refine ⟨fine_two (fine_vi 0) (fine_vi 0), ?_, ?_, fit_two (fit_leaf 2 0 false []) (fit_leaf 2 0 false []) 0 false⟩
      · show 1 + (1 + (1 + 0)) + 1 ≤ _ 
        omega
      · show 1 + 1 ≤ _
        omega
    · rw [h] at hr; simp [raw] at hr
      obtain ⟨hk5, rfl, rfl⟩ := hr
      simp only [h]
      obtain ⟨kt, lt, rfl⟩ := mk_at t
      simp only [Ty.kind] at hk5
      subst hk5
      exact ⟨fine_leaf .pt, (leafs 5 0 true).1, (leafs 5 0 true).2, fit_leaf 5 0 true lt⟩
    · rw [h] at hr; simp [raw] at hr
      obtain ⟨rfl, rfl⟩ := hr
      simp only [h]
      exact ⟨fine_leaf .no, (leafs 8 0 false).1, (leafs 8 0 false).2, .no _ 0 false⟩
    · rw [h] at hr; simp [raw] at hr
      obtain ⟨rfl, rfl⟩ := hr
      simp only [h]
      exact ⟨fine_leaf .no, (leafs 8 0 false).1, (leafs 8 0 false).2, .no _ 0 false⟩
    all_goals
      rw [h] at hr; simp [raw] at hr
      obtain ⟨rfl, rfl⟩ := hr
      simp only [h]
      exact ⟨fine_leaf (.list 0 (by omega)), (leafs 7 0 false).1, (leafs 7 0 false).2, fit_leaf 7 0 false _⟩

/-! ### What may be gone through -/

def smallB (c : Co) (t : Ty) : Bool := (c.sm 20000 30).1 && (t.sm (c.sm 20000 30).2 30).1

theorem small_size {c : Co} {t : Ty} (h : smallB c t = true) : c.size ≤ 20000 ∧ t.size ≤ 20000 := by
  simp only [smallB, Bool.and_eq_true] at h
  have h1 := (csm_le c 20000 30 (by omega)).2 h.1
  have h2 := (sm_le t (c.sm 20000 30).2 30 (by omega)).2 h.2
  omega

theorem f22_ok (c : Co) (t : Ty) : Ev E false 22 [c.t, t.t, .one (.v (.sl []))] [] (tB (smallB c t)) [] := by
  have h1 := f49_ok c.size c 20000 30 (Nat.le_refl _) (by omega) (by omega) (by omega)
  have p1 := csm_le c 20000 30 (by omega)
  have h2 : (c.sm 20000 30).1 = true → _ := fun h => f50_ok t.size t (c.sm 20000 30).2 30 (Nat.le_refl _) (p1.2 h).2 (by have := p1.1; omega) (by omega)
  have e : smallB c t = ((c.sm 20000 30).1 && (t.sm (c.sm 20000 30).2 30).1) := rfl
  rw [e]
  generalize (c.sm 20000 30).1 = b1 at *
  generalize (c.sm 20000 30).2 = l1 at *
  obtain ⟨nm, k, ps, rfl⟩ := cmk_at c
  obtain ⟨kt, lt, rfl⟩ := mk_at t
  refine ev_of_wp (d := d22) rfl rfl (Nat.le_of_ble_eq_true rfl) ?_
  simp only [go_sem, ↓reduceIte, Nat.reduceLT, Nat.reduceEqDiff, Nat.reduceAdd, Nat.reduceMul, Nat.reduceLeDiff, Nat.reduceBEq, Nat.reduceSub, Int.reduceLT, Int.reduceLE, Int.reduceEq, Int.reduceToNat, reduceCtorEq, Nat.lt_irrefl, Nat.le_refl, d22, c22, Co.t, Co.row, Ty.t, Ty.row]
  rw [Wk.wp_loop]
  simp only [go_sem, ↓reduceIte, Nat.reduceLT, Nat.reduceEqDiff, Nat.reduceAdd, Nat.reduceMul, Nat.reduceLeDiff, Nat.reduceBEq, Nat.reduceSub, Int.reduceLT, Int.reduceLE, Int.reduceEq, Int.reduceToNat, reduceCtorEq, Nat.lt_irrefl, Nat.le_refl, ncast0]
  refine callK (by rfl) ?_
  simp only [go_sem, ↓reduceIte, Nat.reduceLT, Nat.reduceEqDiff, Nat.reduceAdd, Nat.reduceMul, Nat.reduceLeDiff, Nat.reduceBEq, Nat.reduceSub, Int.reduceLT, Int.reduceLE, Int.reduceEq, Int.reduceToNat, reduceCtorEq, Nat.lt_irrefl, Nat.le_refl]
  refine callE (h1) (by rfl) ?_
  cases b1 with
  | false => simp only [go_sem, ↓reduceIte, Nat.reduceLT, Nat.reduceEqDiff, Nat.reduceAdd, Nat.reduceMul, Nat.reduceLeDiff, Nat.reduceBEq, Nat.reduceSub, Int.reduceLT, Int.reduceLE, Int.reduceEq, Int.reduceToNat, reduceCtorEq, Nat.lt_irrefl, Nat.le_refl, obL]
  | true =>
    have h2 := h2 rfl
    simp only [go_sem, ↓reduceIte, Nat.reduceLT, Nat.reduceEqDiff, Nat.reduceAdd, Nat.reduceMul, Nat.reduceLeDiff, Nat.reduceBEq, Nat.reduceSub, Int.reduceLT, Int.reduceLE, Int.reduceEq, Int.reduceToNat, reduceCtorEq, Nat.lt_irrefl, Nat.le_refl, obL]
    refine callK (by rfl) ?_
    simp only [go_sem, ↓reduceIte, Nat.reduceLT, Nat.reduceEqDiff, Nat.reduceAdd, Nat.reduceMul, Nat.reduceLeDiff, Nat.reduceBEq, Nat.reduceSub, Int.reduceLT, Int.reduceLE, Int.reduceEq, Int.reduceToNat, reduceCtorEq, Nat.lt_irrefl, Nat.le_refl]
    refine callE (h2) (by rfl) ?_
    simp only [go_sem, ↓reduceIte, Nat.reduceLT, Nat.reduceEqDiff, Nat.reduceAdd, Nat.reduceMul, Nat.reduceLeDiff, Nat.reduceBEq, Nat.reduceSub, Int.reduceLT, Int.reduceLE, Int.reduceEq, Int.reduceToNat, reduceCtorEq, Nat.lt_irrefl, Nat.le_refl, obL]

end Go.Dev.CB
