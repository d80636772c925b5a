/- watershedlaw08.CombineInts returns true for every input, and its argument reads afterwards as it read before. Conditions: none beside those of the given row. -/
import Derived.Test.YtkefplbhpbdhdaaIa
set_option linter.all false
/- A combiner's run over a list of whole numbers. -/
namespace Go.Dev.CB
open Go Go.Dev Go.Dev.Wk
set_option maxRecDepth 100000

def e1 : ByteArray := ⟨#[98, 111, 116, 104, 40, 98, 111, 116, 104, 40, 115, 117, 109, 44, 99, 111, 117, 110, 116, 41, 44, 98, 111, 116, 104, 40, 109, 101, 97, 110, 44, 98, 111, 116, 104, 40, 109, 105, 110, 44, 109, 97, 120, 41, 41, 41]⟩
def e2 : ByteArray := ⟨#[98, 111, 116, 104, 40, 115, 117, 109, 44, 98, 111, 116, 104, 40, 109, 105, 110, 44, 109, 97, 120, 41, 41]⟩
def e3 : ByteArray := ⟨#[109, 101, 97, 110]⟩
def e4 : ByteArray := ⟨#[98, 111, 116, 104, 40, 109, 101, 97, 110, 44, 99, 111, 117, 110, 116, 41]⟩
def q2 : Q := .both .sum (.both .min .max)
def q4 : Q := .both .mean .count

theorem p1 : Ev E false 51 [tS e1] [] (.tup [(Co.mk ⟨#[]⟩ 0 []).t, tI 31, tI 40]) [] := ⟨3000, by kernel_rfl⟩
theorem p2e : Ev E false 51 [tS e2] [] (.tup [q2.co.t, tI 0, tI 0]) [] := ⟨3000, by kernel_rfl⟩
theorem p3e : Ev E false 51 [tS e3] [] (.tup [(Q.co .mean).t, tI 0, tI 0]) [] := ⟨3000, by kernel_rfl⟩
theorem p4e : Ev E false 51 [tS e4] [] (.tup [q4.co.t, tI 0, tI 0]) [] := ⟨3000, by kernel_rfl⟩

def Q.run (q : Q) (l : List Int) : q.S := l.foldl (fun s n => q.jn s (q.one n)) q.z

theorem f65_of {c : Co} {a o : Ty} (htp : c.tp num = some (a, o)) {s r : Vl}
    (h78 : Ev E false 78 [opT c num, s.t] [] (tB true) []) (h88 : Ev E false 88 [opT c num, s.t] [] r.t []) (hr : Good1 r) :
    Ev E false 65 [opT c num, s.t] [] (.tup [r.t, tI 0]) [] := by
  have h81 := f81_ok hr
  obtain ⟨nm, k, ps, e⟩ := op_acc htp
  rw [opT, e] at h78 h88 ⊢
  generalize opRow nm k num a o ps = OP at *
  obtain ⟨ks, ns, p0, ls, rfl⟩ := vmk_at s
  obtain ⟨kr, nr, p1, lr, rfl⟩ := vmk_at r
  refine ev_of_wp (d := d65) rfl rfl (Nat.le_of_ble_eq_true rfl) ?_
  simp only [go_sem, ↓reduceIte, Nat.reduceLT, Nat.reduceEqDiff, Nat.reduceAdd, Nat.reduceMul, Nat.reduceLeDiff, Nat.reduceBEq, Nat.reduceSub, Int.reduceLT, Int.reduceLE, Int.reduceEq, Int.reduceToNat, reduceCtorEq, Nat.lt_irrefl, Nat.le_refl, d65, c65, Vl.t, Vl.row]
  refine call0 (h78) (by rfl) (by rfl) (by rfl) (by rfl) ?_
  simp only [go_sem, ↓reduceIte, Nat.reduceLT, Nat.reduceEqDiff, Nat.reduceAdd, Nat.reduceMul, Nat.reduceLeDiff, Nat.reduceBEq, Nat.reduceSub, Int.reduceLT, Int.reduceLE, Int.reduceEq, Int.reduceToNat, reduceCtorEq, Nat.lt_irrefl, Nat.le_refl]
  refine call0 (h88) (by rfl) (by rfl) (by rfl) (by rfl) ?_
  simp only [go_sem, ↓reduceIte, Nat.reduceLT, Nat.reduceEqDiff, Nat.reduceAdd, Nat.reduceMul, Nat.reduceLeDiff, Nat.reduceBEq, Nat.reduceSub, Int.reduceLT, Int.reduceLE, Int.reduceEq, Int.reduceToNat, reduceCtorEq, Nat.lt_irrefl, Nat.le_refl, Vl.t, Vl.row]
  refine call0 (h81) (by rfl) (by rfl) (by rfl) (by rfl) ?_
  simp only [go_sem, ↓reduceIte, Nat.reduceLT, Nat.reduceEqDiff, Nat.reduceAdd, Nat.reduceMul, Nat.reduceLeDiff, Nat.reduceBEq, Nat.reduceSub, Int.reduceLT, Int.reduceLE, Int.reduceEq, Int.reduceToNat, reduceCtorEq, Nat.lt_irrefl, Nat.le_refl, Vl.t, Vl.row]

theorem f35_no {e : ByteArray} {k : Int} (h51 : Ev E false 51 [tS e] [] (.tup [(Co.mk ⟨#[]⟩ 0 []).t, tI k, tI 40]) []) (l : List Int) : Ev E false 35 [tS e, .one (.v (.sl (iRows l)))] [] (.tup [(Vl.mk 0 0 false []).t, tB false]) [] := by
  have h24 : Ev E false 24 [(Co.mk ⟨#[]⟩ 0 []).t, num.t] [] (.tup [nilT, tI 80]) [] := f24_ok (.mk ⟨#[]⟩ 0 []) num (by decide)
  refine ev_of_wp (d := d35) rfl rfl (Nat.le_of_ble_eq_true rfl) ?_
  simp only [go_sem, ↓reduceIte, Nat.reduceLT, Nat.reduceEqDiff, Nat.reduceAdd, Nat.reduceMul, Nat.reduceLeDiff, Nat.reduceBEq, Nat.reduceSub, Int.reduceLT, Int.reduceLE, Int.reduceEq, Int.reduceToNat, reduceCtorEq, Nat.lt_irrefl, Nat.le_refl, d35, c35]
  refine call0 (h51) (by rfl) (by rfl) (by rfl) (by rfl) ?_
  simp only [go_sem, ↓reduceIte, Nat.reduceLT, Nat.reduceEqDiff, Nat.reduceAdd, Nat.reduceMul, Nat.reduceLeDiff, Nat.reduceBEq, Nat.reduceSub, Int.reduceLT, Int.reduceLE, Int.reduceEq, Int.reduceToNat, reduceCtorEq, Nat.lt_irrefl, Nat.le_refl, Co.t, Co.row, Co.rows]
  refine call0 (h24) (by rfl) (by rfl) (by rfl) (by rfl) ?_
  simp only [go_sem, ↓reduceIte, Nat.reduceLT, Nat.reduceEqDiff, Nat.reduceAdd, Nat.reduceMul, Nat.reduceLeDiff, Nat.reduceBEq, Nat.reduceSub, Int.reduceLT, Int.reduceLE, Int.reduceEq, Int.reduceToNat, reduceCtorEq, Nat.lt_irrefl, Nat.le_refl, nilT, Vl.t, Vl.row, pV, Vl.rows]

/-- A run, of states that are one another's next. -/
theorem f35_of {e : ByteArray} {c : Co} {a o : Ty} (h51 : Ev E false 51 [tS e] [] (.tup [c.t, tI 0, tI 0]) []) (hrt : c.rt 3 = true) (htp : c.tp num = some (a, o))
    (l : List Int) (hl : l.length ≤ 100) (st : Nat → Vl) (h0 : st 0 = c.cv num) (hst : ∀ j (h : j < l.length), Ev E false 53 [opT c num, (st j).t, .one (.v (.sl [(vi l[j]).row]))] [] (.tup [(st (j + 1)).t, tI 0]) [])
    {r : Vl} (h65 : Ev E false 65 [opT c num, (st l.length).t] [] (.tup [r.t, tI 0]) []) :
    Ev E false 35 [tS e, .one (.v (.sl (iRows l)))] [] (.tup [r.t, tB true]) [] := by
  have h24 := f24_ok c num (by decide)
  rw [hrt, if_pos rfl, num_ok, if_pos rfl, newR, htp, if_pos (show (some (a, o)).isSome = true from rfl)] at h24
  have h34 := f34_ok 3 c num hrt
  rw [← h0] at h34
  simp only [opT] at *
  generalize c.op num = OP at *
  obtain ⟨kr, nr, pr1, lr, rfl⟩ := vmk_at r
  obtain ⟨nmc, kc, lc, rfl⟩ := cmk_at c
  obtain ⟨k0, n0, p0, l0, hz⟩ := vmk_at (st 0)
  have h34' := h34
  rw [hz] at h34'
  refine ev_of_wp (d := d35) rfl rfl (Nat.le_of_ble_eq_true rfl) ?_
  simp only [go_sem, ↓reduceIte, Nat.reduceLT, Nat.reduceEqDiff, Nat.reduceAdd, Nat.reduceMul, Nat.reduceLeDiff, Nat.reduceBEq, Nat.reduceSub, Int.reduceLT, Int.reduceLE, Int.reduceEq, Int.reduceToNat, reduceCtorEq, Nat.lt_irrefl, Nat.le_refl, d35, c35]
  refine call0 (h51) (by rfl) (by rfl) (by rfl) (by rfl) ?_
  simp only [go_sem, ↓reduceIte, Nat.reduceLT, Nat.reduceEqDiff, Nat.reduceAdd, Nat.reduceMul, Nat.reduceLeDiff, Nat.reduceBEq, Nat.reduceSub, Int.reduceLT, Int.reduceLE, Int.reduceEq, Int.reduceToNat, reduceCtorEq, Nat.lt_irrefl, Nat.le_refl, Co.t, Co.row]
  refine call0 (h24) (by rfl) (by rfl) (by rfl) (by rfl) ?_
  simp only [go_sem, ↓reduceIte, Nat.reduceLT, Nat.reduceEqDiff, Nat.reduceAdd, Nat.reduceMul, Nat.reduceLeDiff, Nat.reduceBEq, Nat.reduceSub, Int.reduceLT, Int.reduceLE, Int.reduceEq, Int.reduceToNat, reduceCtorEq, Nat.lt_irrefl, Nat.le_refl, peqA_pn]
  refine call0 (h34') (by rfl) (by rfl) (by rfl) (by rfl) ?_
  simp only [go_sem, ↓reduceIte, Nat.reduceLT, Nat.reduceEqDiff, Nat.reduceAdd, Nat.reduceMul, Nat.reduceLeDiff, Nat.reduceBEq, Nat.reduceSub, Int.reduceLT, Int.reduceLE, Int.reduceEq, Int.reduceToNat, reduceCtorEq, Nat.lt_irrefl, Nat.le_refl, Vl.t, Vl.row, iRows_len]
  have hbx : (Vl.mk k0 n0 p0 l0).row.map C.v = (st 0).row.map C.v := by rw [hz]
  refine loop_ind (I := fun (j : Nat) tm bx fo => j ≤ l.length ∧ fo = [] ∧ tm 4 = .one (.ref (.loc 4 1) 0) ∧ tm 9 = .one (.v (.pt OP)) ∧ tm 11 = .one (.ref (.loc 11 1) 0) ∧ tm 42 = .one (.v (.sl (iRows l))) ∧ tm 43 = tI l.length ∧ tm 44 = tI j ∧
      bx 4 = ⟨1, 40, [.v (.s (.int .i64 0)), .v (.s (.int .i64 0)), .v (.s (.string ⟨#[]⟩)), .v (.s (.complex .f64 0 0)), .esl]⟩ ∧ bx 11 = ⟨1, 40, (st j).row.map .v⟩) (μ := fun j => l.length - j) ?_ 0 _ _ _ ⟨Nat.zero_le _, rfl, rfl, rfl, rfl, rfl, rfl, rfl, rfl, by rw [hz]; rfl⟩
  rintro j tm bx fo ⟨hj, rfl, h4, h9, h11, h42, h43, h44, b4, b11⟩ IH
  by_cases hjl : j < l.length
  · have e3 := iRows_at hjl
    have e5 := hst j hjl
    obtain ⟨k1, n1, p1, l1, hs1⟩ := vmk_at (st j)
    obtain ⟨k2, n2, p2, l2, hs2⟩ := vmk_at (st (j + 1))
    rw [hs1, hs2, vi_row] at e5
    rw [hs1] at b11
    simp only [Vl.row] at b11
    simp only [go_sem, ↓reduceIte, Nat.reduceLT, Nat.reduceEqDiff, Nat.reduceAdd, Nat.reduceMul, Nat.reduceLeDiff, Nat.reduceBEq, Nat.reduceSub, Int.reduceLT, Int.reduceLE, Int.reduceEq, Int.reduceToNat, reduceCtorEq, Nat.lt_irrefl, Nat.le_refl, h4, h9, h11, h42, h43, h44, b4, b11, hjl, e3]
    refine call0 (e5) (by rfl) (by rfl) (by rfl) (by rfl) ?_
    simp only [go_sem, ↓reduceIte, Nat.reduceLT, Nat.reduceEqDiff, Nat.reduceAdd, Nat.reduceMul, Nat.reduceLeDiff, Nat.reduceBEq, Nat.reduceSub, Int.reduceLT, Int.reduceLE, Int.reduceEq, Int.reduceToNat, reduceCtorEq, Nat.lt_irrefl, Nat.le_refl, Vl.t, Vl.row, h4, h9, h11, h42, h43, h44, b4, b11]
    refine IH (j + 1) _ _ _ (by omega) ?_
    refine ⟨by omega, rfl, h4, h9, h11, h42, h43, ?_, b4, ?_⟩
    · show T.one (C.v (V.s (Value.int IntKind.i64 (IntKind.i64.wrap (j + 1))))) = _
      rw [wrap_succ (by omega)]; rfl
    · rw [hs2]; rfl
  · obtain rfl : j = l.length := by omega
    obtain ⟨k1, n1, p1, l1, hs1⟩ := vmk_at (st l.length)
    rw [hs1] at h65 b11
    simp only [Vl.row] at b11
    simp only [go_sem, ↓reduceIte, Nat.reduceLT, Nat.reduceEqDiff, Nat.reduceAdd, Nat.reduceMul, Nat.reduceLeDiff, Nat.reduceBEq, Nat.reduceSub, Int.reduceLT, Int.reduceLE, Int.reduceEq, Int.reduceToNat, reduceCtorEq, Nat.lt_irrefl, Nat.le_refl, h4, h9, h11, h42, h43, h44, b4, b11]
    refine call0 (h65) (by rfl) (by rfl) (by rfl) (by rfl) ?_
    simp only [go_sem, ↓reduceIte, Nat.reduceLT, Nat.reduceEqDiff, Nat.reduceAdd, Nat.reduceMul, Nat.reduceLeDiff, Nat.reduceBEq, Nat.reduceSub, Int.reduceLT, Int.reduceLE, Int.reduceEq, Int.reduceToNat, reduceCtorEq, Nat.lt_irrefl, Nat.le_refl, Vl.t, Vl.row, h4, b4]

theorem q_ex (q : Q) : ∀ s, Fine (q.ex s) ∧ (q.ex s).size ≤ q.sz ∧ (q.ex s).ht ≤ q.h := by
  have hvi : ∀ n, Fine (vi n) ∧ (vi n).size ≤ 3 ∧ (vi n).ht ≤ 2 := fun n => ⟨fine_vi n, by simp [vi, Vl.size, Vl.sizes], by simp [vi, Vl.ht, Vl.hts]⟩
  induction q with
  | both a b iha ihb =>
    intro s
    have h1 := iha s.1
    have h2 := ihb s.2
    refine ⟨fine_two h1.1 h2.1, ?_, ?_⟩
    · show 1 + ((a.ex s.1).size + ((b.ex s.2).size + 0)) ≤ 1 + a.sz + b.sz
      omega
    · show 1 + (if (a.ex s.1).ht ≤ (if (b.ex s.2).ht ≤ 0 then 0 else (b.ex s.2).ht) then (if (b.ex s.2).ht ≤ 0 then 0 else (b.ex s.2).ht) else (a.ex s.1).ht) ≤ 1 + (if a.h ≤ b.h then b.h else a.h)
      by_cases q1 : (b.ex s.2).ht ≤ 0 <;> simp only [q1, if_true, if_false] <;> split <;> split <;> omega
  | count => exact fun s => hvi s
  | sum => exact fun s => hvi s
  | mean =>
    intro s
    simp only [Q.ex]
    split
    · exact hvi _
    · exact hvi _
  | min => exact fun s => ⟨bd_fine s, bd_size s⟩
  | max => exact fun s => ⟨bd_fine s, bd_size s⟩

theorem run_succ (q : Q) {l : List Int} {j : Nat} (h : j < l.length) : q.run (l.take (j + 1)) = q.jn (q.run (l.take j)) (q.one l[j]) := by
  simp only [Q.run]
  rw [List.take_succ_eq_append_getElem h, List.foldl_append]; rfl

theorem f35_q (q : Q) {e : ByteArray} {a o : Ty} (h51 : Ev E false 51 [tS e] [] (.tup [q.co.t, tI 0, tI 0]) []) (hrt : q.co.rt 3 = true) (htp : q.co.tp num = some (a, o))
    (hz : q.vl q.z = q.co.cv num) (hs : q.sz ≤ 2000) (hh : q.h ≤ 8) (l : List Int) (hl : l.length ≤ 100) :
    Ev E false 35 [tS e, .one (.v (.sl (iRows l)))] [] (.tup [(q.ex (q.run l)).t, tB true]) [] := by
  have gv : ∀ s, Good1 (q.vl s) := fun s => ⟨q_fine q s, Nat.le_trans (q_size q s).1 hs, Nat.le_trans (q_size q s).2 hh⟩
  have gx : ∀ s, Good1 (q.ex s) := fun s => ⟨(q_ex q s).1, Nat.le_trans (q_ex q s).2.1 hs, Nat.le_trans (q_ex q s).2.2 hh⟩
  refine f35_of h51 hrt htp l hl (fun j => q.vl (q.run (l.take j))) hz (fun j hj => ?_) ?_
  · simp only [run_succ q hj]
    exact f53_of htp (f78_ok q _ a o htp hs hh) (f80_ok q _) (f79_ok q _ _) (gv _)
  · simp only [List.take_length]
    exact f65_of htp (f78_ok q _ a o htp hs hh) (f88_ok q _) (gx _)

theorem r2 (l : List Int) (hl : l.length ≤ 100) : Ev E false 35 [tS e2, .one (.v (.sl (iRows l)))] [] (.tup [(q2.ex (q2.run l)).t, tB true]) [] :=
  f35_q q2 (a := pr num (pr (.mk 9 [num]) (.mk 9 [num]))) (o := pr num (pr (.mk 9 [num]) (.mk 9 [num]))) p2e (by decide) rfl rfl (by decide) (by decide) l hl
theorem r3 (l : List Int) (hl : l.length ≤ 100) : Ev E false 35 [tS e3, .one (.v (.sl (iRows l)))] [] (.tup [(Q.ex .mean (Q.run .mean l)).t, tB true]) [] :=
  f35_q .mean (a := pr num num) (o := num) p3e (by decide) rfl rfl (by decide) (by decide) l hl
theorem r4 (l : List Int) (hl : l.length ≤ 100) : Ev E false 35 [tS e4, .one (.v (.sl (iRows l)))] [] (.tup [(q4.ex (q4.run l)).t, tB true]) [] :=
  f35_q q4 (a := pr (pr num num) num) (o := pr num num) p4e (by decide) rfl rfl (by decide) (by decide) l hl

end Go.Dev.CB

/- The law's function of CombineInts. -/
namespace Go.Dev.CB
open Go Go.Dev Go.Dev.Wk
set_option maxRecDepth 100000

def sm (l : List Int) : Int := l.foldl (fun s n => W (s + n)) 0
def ct (l : List Int) : Int := l.foldl (fun s _ => W (s + 1)) 0
def bnd (mn : Bool) (l : List Int) : Option Int := l.foldl (fun s n => jb mn s (some n)) none

theorem run_both (a b : Q) (l : List Int) : (Q.both a b).run l = (a.run l, b.run l) := by
  suffices h : ∀ (l : List Int) (x : a.S) (y : b.S), l.foldl (fun (s : (Q.both a b).S) n => (Q.both a b).jn s ((Q.both a b).one n)) (x, y) = (l.foldl (fun s n => a.jn s (a.one n)) x, l.foldl (fun s n => b.jn s (b.one n)) y) from h l _ _
  intro l
  induction l with
  | nil => intro x y; rfl
  | cons n l ih => intro x y; exact ih _ _
theorem run_sum (l : List Int) : Q.run .sum l = sm l := rfl
theorem run_count (l : List Int) : Q.run .count l = ct l := rfl
theorem run_min (l : List Int) : Q.run .min l = bnd true l := rfl
theorem run_max (l : List Int) : Q.run .max l = bnd false l := rfl
theorem run_mean (l : List Int) : Q.run .mean l = (sm l, ct l) := by
  suffices h : ∀ (l : List Int) (x y : Int), l.foldl (fun (s : Q.S .mean) n => Q.jn .mean s (Q.one .mean n)) (x, y) = (l.foldl (fun s n => W (s + n)) x, l.foldl (fun s _ => W (s + 1)) y) from h l _ _
  intro l
  induction l with
  | nil => intro x y; rfl
  | cons n l ih => intro x y; exact ih _ _

theorem ct_len (l : List Int) (h : l.length ≤ 100) : ct l = l.length := by
  suffices g : ∀ (l : List Int) (k : Nat), k + l.length ≤ 100 → l.foldl (fun s _ => W (s + 1)) (k : Int) = ((k + l.length : Nat) : Int) by
    have := g l 0 (by omega)
    simpa [ct] using this
  intro l
  induction l with
  | nil => intro k _; rfl
  | cons n l ih =>
    intro k hk
    simp only [List.length_cons] at hk ⊢
    rw [List.foldl_cons, show W ((k : Int) + 1) = ((k + 1 : Nat) : Int) from wrap_succ (by omega), ih (k + 1) (by omega)]
    congr 1; omega

theorem sm_succ {l : List Int} {j : Nat} (h : j < l.length) : sm (l.take (j + 1)) = W (sm (l.take j) + l[j]) := by
  simp only [sm]
  rw [List.take_succ_eq_append_getElem h, List.foldl_append]; rfl
theorem bnd_succ {l : List Int} {j : Nat} (mn : Bool) (h : j < l.length) : bnd mn (l.take (j + 1)) = jb mn (bnd mn (l.take j)) (some l[j]) := by
  simp only [bnd]
  rw [List.take_succ_eq_append_getElem h, List.foldl_append]; rfl
theorem cmp_lt (a b : Int) : cmpI a b < 0 ↔ a < b := by
  unfold cmpI; split
  · exact ⟨fun _ => by assumption, fun _ => by decide⟩
  · split <;> exact ⟨fun h => absurd h (by decide), fun h => absurd h (by assumption)⟩
theorem jb_min (m x : Int) : jb true (some m) (some x) = some (if x < m then x else m) := by
  simp only [jb]
  by_cases h : x < m
  · rw [decide_eq_true ((cmp_lt x m).2 h), if_pos h]; rfl
  · rw [decide_eq_false (fun g => h ((cmp_lt x m).1 g)), if_neg h]; rfl
theorem jb_max (m x : Int) : jb false (some m) (some x) = some (if m < x then x else m) := by
  simp only [jb]
  by_cases h : x < m
  · rw [decide_eq_true ((cmp_lt x m).2 h), if_neg (show ¬ m < x by omega)]; rfl
  · rw [decide_eq_false (fun g => h ((cmp_lt x m).1 g))]
    by_cases g : m < x
    · rw [if_pos g]; rfl
    · rw [if_neg g]
      have : x = m := by omega
      subst this; rfl

end Go.Dev.CB

/- The law's function of CombineInts. -/
namespace Go.Dev.CB
open Go Go.Dev Go.Dev.Wk
set_option maxRecDepth 100000

theorem f5_ok (l : List Int) : Ev E false 5 [.one (.v (.sl (iRows l)))] [] (tB true) [] := by
  by_cases hl : 100 < l.length
  · have hl' : (100 : Int) < (l.length : Int) := by omega
    refine ev_of_wp (d := d5) rfl rfl (Nat.le_of_ble_eq_true rfl) ?_
    simp only [go_sem, ↓reduceIte, Nat.reduceLT, Nat.reduceEqDiff, Nat.reduceAdd, Nat.reduceMul, Nat.reduceLeDiff, Nat.reduceBEq, Nat.reduceSub, Int.reduceLT, Int.reduceLE, Int.reduceEq, Int.reduceToNat, reduceCtorEq, Nat.lt_irrefl, Nat.le_refl, d5, c5, iRows_len, hl']
    refine call0 (f23_ok) (by rfl) (by rfl) (by rfl) (by rfl) ?_
    simp only [go_sem, ↓reduceIte, Nat.reduceLT, Nat.reduceEqDiff, Nat.reduceAdd, Nat.reduceMul, Nat.reduceLeDiff, Nat.reduceBEq, Nat.reduceSub, Int.reduceLT, Int.reduceLE, Int.reduceEq, Int.reduceToNat, reduceCtorEq, Nat.lt_irrefl, Nat.le_refl]
  have hl' : ¬ (100 : Int) < (l.length : Int) := by omega
  have h1 := f35_no p1 l
  have h2 := r2 l (by omega)
  have h3 := r3 l (by omega)
  have h4 := r4 l (by omega)
  rw [show q2 = .both .sum (.both .min .max) from rfl, run_both, run_both] at h2
  rw [show q4 = .both .mean .count from rfl, run_both] at h4
  simp only [Q.ex, run_sum, run_min, run_max, run_mean, run_count, ct_len l (by omega)] at h2 h3 h4
  simp only [tS, e1] at h1
  simp only [tS, e2] at h2
  simp only [tS, e3] at h3
  simp only [tS, e4] at h4
  refine ev_of_wp (d := d5) rfl rfl (Nat.le_of_ble_eq_true rfl) ?_
  simp only [go_sem, ↓reduceIte, Nat.reduceLT, Nat.reduceEqDiff, Nat.reduceAdd, Nat.reduceMul, Nat.reduceLeDiff, Nat.reduceBEq, Nat.reduceSub, Int.reduceLT, Int.reduceLE, Int.reduceEq, Int.reduceToNat, reduceCtorEq, Nat.lt_irrefl, Nat.le_refl, d5, c5, iRows_len, hl']
  refine call0 (h1) (by rfl) (by rfl) (by rfl) (by rfl) ?_
  simp only [go_sem, ↓reduceIte, Nat.reduceLT, Nat.reduceEqDiff, Nat.reduceAdd, Nat.reduceMul, Nat.reduceLeDiff, Nat.reduceBEq, Nat.reduceSub, Int.reduceLT, Int.reduceLE, Int.reduceEq, Int.reduceToNat, reduceCtorEq, Nat.lt_irrefl, Nat.le_refl, Vl.t, Vl.row, pV, Vl.rows]
  obtain ⟨kb, nb, pb, lb, hb⟩ := vmk_at (bd (bnd true l))
  obtain ⟨kc, nc, pc, lc, hc⟩ := vmk_at (bd (bnd false l))
  rw [hb, hc] at h2
  refine call0 (h2) (by rfl) (by rfl) (by rfl) (by rfl) ?_
  simp only [go_sem, ↓reduceIte, Nat.reduceLT, Nat.reduceEqDiff, Nat.reduceAdd, Nat.reduceMul, Nat.reduceLeDiff, Nat.reduceBEq, Nat.reduceSub, Int.reduceLT, Int.reduceLE, Int.reduceEq, Int.reduceToNat, reduceCtorEq, Nat.lt_irrefl, Nat.le_refl, Vl.t, p2, Vl.row, vi_row, pV, Vl.rows, iRows_len]
  refine loop_ind (I := fun (j : Nat) tm bx fo => j ≤ l.length ∧ fo = [] ∧ tm 0 = .one (.v (.sl (iRows l))) ∧ tm 5 = .one (.ref (.loc 5 1) 0) ∧ tm 41 = .one (.v (.sl (iRows l))) ∧ tm 42 = tI l.length ∧ tm 43 = tI j ∧
      bx 5 = ⟨1, 40, [.v (.s (.int .i64 6)), .v (.s (.int .i64 0)), .v (.s (.string ⟨#[]⟩)), .v (.s (.complex .f64 0 0)), .v (.sl [[.s (.int .i64 2), .s (.int .i64 (sm l)), .s (.string ⟨#[]⟩), .s (.complex .f64 0 0), .sl []], [.s (.int .i64 6), .s (.int .i64 0), .s (.string ⟨#[]⟩), .s (.complex .f64 0 0), .sl [[.s (.int .i64 kb), .s (.int .i64 nb), .s (.string ⟨#[]⟩), .s (pV pb), .sl (Vl.rows lb)], [.s (.int .i64 kc), .s (.int .i64 nc), .s (.string ⟨#[]⟩), .s (pV pc), .sl (Vl.rows lc)]]]])]⟩ ∧
      tm 7 = tI (sm (l.take j)) ∧ ((j = 0 ∧ bnd true (l.take j) = none ∧ bnd false (l.take j) = none ∧ tm 8 = tI 0 ∧ tm 9 = tI 0) ∨ (0 < j ∧ ∃ m M, bnd true (l.take j) = some m ∧ bnd false (l.take j) = some M ∧ tm 8 = tI m ∧ tm 9 = tI M))) (μ := fun j => l.length - j) ?_ 0 _ _ _ ⟨Nat.zero_le _, rfl, rfl, rfl, rfl, rfl, rfl, rfl, rfl, Or.inl ⟨rfl, rfl, rfl, rfl, rfl⟩⟩
  rintro j tm bx fo ⟨hj, rfl, h0, h5, h41, h42, h43, b5, h7, h89⟩ IH
  by_cases hjl : j < l.length
  · have e3 := iRows_at hjl
    have es := sm_succ hjl
    have em := bnd_succ true hjl
    have eM := bnd_succ false hjl
    rcases h89 with ⟨rfl, g1, g2, h8, h9⟩ | ⟨hj0, m, M, g1, g2, h8, h9⟩
    · rw [g1] at em
      rw [g2] at eM
      have hpos : (0 : Int) < (l.length : Int) := by omega
      simp only [go_sem, ↓reduceIte, Nat.reduceLT, Nat.reduceEqDiff, Nat.reduceAdd, Nat.reduceMul, Nat.reduceLeDiff, Nat.reduceBEq, Nat.reduceSub, Int.reduceLT, Int.reduceLE, Int.reduceEq, Int.reduceToNat, reduceCtorEq, Nat.lt_irrefl, Nat.le_refl, h0, h5, h41, h42, h43, b5, h7, h8, h9, hjl, e3, ncast0, hpos]
      refine IH 1 _ _ _ (by omega) ?_
      refine ⟨by omega, rfl, h0, h5, h41, h42, ?_, b5, ?_, Or.inr ⟨by omega, l[0], l[0], em, eM, ?_, ?_⟩⟩
      · show T.one (C.v (V.s (Value.int IntKind.i64 (IntKind.i64.wrap (((0 : Nat) : Int) + 1))))) = _
        rw [wrap_succ (by omega)]; rfl
      · rw [es]; rfl
      · rfl
      · rfl
    · rw [g1, jb_min] at em
      rw [g2, jb_max] at eM
      have hj1 : ¬ ((j : Int) = 0) := by omega
      by_cases c1 : l[j] < m
      · rw [if_pos c1] at em
        by_cases c2 : M < l[j]
        · rw [if_pos c2] at eM
          simp only [go_sem, ↓reduceIte, Nat.reduceLT, Nat.reduceEqDiff, Nat.reduceAdd, Nat.reduceMul, Nat.reduceLeDiff, Nat.reduceBEq, Nat.reduceSub, Int.reduceLT, Int.reduceLE, Int.reduceEq, Int.reduceToNat, reduceCtorEq, Nat.lt_irrefl, Nat.le_refl, h0, h5, h41, h42, h43, b5, h7, h8, h9, hjl, e3, hj1, c1, c2]
          refine IH (j + 1) _ _ _ (by omega) ?_
          refine ⟨by omega, rfl, h0, h5, h41, h42, ?_, b5, ?_, Or.inr ⟨by omega, _, _, em, eM, ?_, ?_⟩⟩
          · show T.one (C.v (V.s (Value.int IntKind.i64 (IntKind.i64.wrap (j + 1))))) = _
            rw [wrap_succ (by omega)]; rfl
          · rw [es]; rfl
          · first | rfl | exact h8
          · first | rfl | exact h9
        · rw [if_neg c2] at eM
          simp only [go_sem, ↓reduceIte, Nat.reduceLT, Nat.reduceEqDiff, Nat.reduceAdd, Nat.reduceMul, Nat.reduceLeDiff, Nat.reduceBEq, Nat.reduceSub, Int.reduceLT, Int.reduceLE, Int.reduceEq, Int.reduceToNat, reduceCtorEq, Nat.lt_irrefl, Nat.le_refl, h0, h5, h41, h42, h43, b5, h7, h8, h9, hjl, e3, hj1, c1, c2]
          refine IH (j + 1) _ _ _ (by omega) ?_
          refine ⟨by omega, rfl, h0, h5, h41, h42, ?_, b5, ?_, Or.inr ⟨by omega, _, _, em, eM, ?_, ?_⟩⟩
          · show T.one (C.v (V.s (Value.int IntKind.i64 (IntKind.i64.wrap (j + 1))))) = _
            rw [wrap_succ (by omega)]; rfl
          · rw [es]; rfl
          · first | rfl | exact h8
          · first | rfl | exact h9
      · rw [if_neg c1] at em
        by_cases c2 : M < l[j]
        · rw [if_pos c2] at eM
          simp only [go_sem, ↓reduceIte, Nat.reduceLT, Nat.reduceEqDiff, Nat.reduceAdd, Nat.reduceMul, Nat.reduceLeDiff, Nat.reduceBEq, Nat.reduceSub, Int.reduceLT, Int.reduceLE, Int.reduceEq, Int.reduceToNat, reduceCtorEq, Nat.lt_irrefl, Nat.le_refl, h0, h5, h41, h42, h43, b5, h7, h8, h9, hjl, e3, hj1, c1, c2]
          refine IH (j + 1) _ _ _ (by omega) ?_
          refine ⟨by omega, rfl, h0, h5, h41, h42, ?_, b5, ?_, Or.inr ⟨by omega, _, _, em, eM, ?_, ?_⟩⟩
          · show T.one (C.v (V.s (Value.int IntKind.i64 (IntKind.i64.wrap (j + 1))))) = _
            rw [wrap_succ (by omega)]; rfl
          · rw [es]; rfl
          · first | rfl | exact h8
          · first | rfl | exact h9
        · rw [if_neg c2] at eM
          simp only [go_sem, ↓reduceIte, Nat.reduceLT, Nat.reduceEqDiff, Nat.reduceAdd, Nat.reduceMul, Nat.reduceLeDiff, Nat.reduceBEq, Nat.reduceSub, Int.reduceLT, Int.reduceLE, Int.reduceEq, Int.reduceToNat, reduceCtorEq, Nat.lt_irrefl, Nat.le_refl, h0, h5, h41, h42, h43, b5, h7, h8, h9, hjl, e3, hj1, c1, c2]
          refine IH (j + 1) _ _ _ (by omega) ?_
          refine ⟨by omega, rfl, h0, h5, h41, h42, ?_, b5, ?_, Or.inr ⟨by omega, _, _, em, eM, ?_, ?_⟩⟩
          · show T.one (C.v (V.s (Value.int IntKind.i64 (IntKind.i64.wrap (j + 1))))) = _
            rw [wrap_succ (by omega)]; rfl
          · rw [es]; rfl
          · first | rfl | exact h8
          · first | rfl | exact h9
  · obtain rfl : j = l.length := by omega
    rw [List.take_length] at h7 h89
    rcases h89 with ⟨hz, g1, g2, h8, h9⟩ | ⟨hj0, m, M, g1, g2, h8, h9⟩
    · obtain rfl := List.length_eq_zero_iff.1 hz
      rw [g1] at hb
      rw [g2] at hc
      cases hb
      cases hc
      simp only [List.length_nil, ncast0, Q.ex, if_true, sm, List.foldl_nil] at h3 h4
      simp only [go_sem, ↓reduceIte, Nat.reduceLT, Nat.reduceEqDiff, Nat.reduceAdd, Nat.reduceMul, Nat.reduceLeDiff, Nat.reduceBEq, Nat.reduceSub, Int.reduceLT, Int.reduceLE, Int.reduceEq, Int.reduceToNat, reduceCtorEq, Nat.lt_irrefl, Nat.le_refl, h0, h5, h41, h42, h43, b5, h7, h8, h9, iRows, List.map_nil, List.length_nil, ncast0, sm, List.foldl_nil]
      refine call0 (h3) (by rfl) (by rfl) (by rfl) (by rfl) ?_
      simp only [go_sem, ↓reduceIte, Nat.reduceLT, Nat.reduceEqDiff, Nat.reduceAdd, Nat.reduceMul, Nat.reduceLeDiff, Nat.reduceBEq, Nat.reduceSub, Int.reduceLT, Int.reduceLE, Int.reduceEq, Int.reduceToNat, reduceCtorEq, Nat.lt_irrefl, Nat.le_refl, Vl.t, vi_row]
      refine call0 (f23_ok) (by rfl) (by rfl) (by rfl) (by rfl) ?_
      simp only [go_sem, ↓reduceIte, Nat.reduceLT, Nat.reduceEqDiff, Nat.reduceAdd, Nat.reduceMul, Nat.reduceLeDiff, Nat.reduceBEq, Nat.reduceSub, Int.reduceLT, Int.reduceLE, Int.reduceEq, Int.reduceToNat, reduceCtorEq, Nat.lt_irrefl, Nat.le_refl]
    · rw [g1] at hb
      rw [g2] at hc
      cases hb
      cases hc
      have hlz : ¬ ((l.length : Int) = 0) := by omega
      rw [if_neg hlz] at h4
      simp only [go_sem, ↓reduceIte, Nat.reduceLT, Nat.reduceEqDiff, Nat.reduceAdd, Nat.reduceMul, Nat.reduceLeDiff, Nat.reduceBEq, Nat.reduceSub, Int.reduceLT, Int.reduceLE, Int.reduceEq, Int.reduceToNat, reduceCtorEq, Nat.lt_irrefl, Nat.le_refl, h0, h5, h41, h42, h43, b5, h7, h8, h9, iRows_len, hlz]
      refine call0 (h4) (by rfl) (by rfl) (by rfl) (by rfl) ?_
      simp only [go_sem, ↓reduceIte, Nat.reduceLT, Nat.reduceEqDiff, Nat.reduceAdd, Nat.reduceMul, Nat.reduceLeDiff, Nat.reduceBEq, Nat.reduceSub, Int.reduceLT, Int.reduceLE, Int.reduceEq, Int.reduceToNat, reduceCtorEq, Nat.lt_irrefl, Nat.le_refl, Vl.t, Vl.row, p2, vi_row, Vl.rows, pV, h0, h7, h8, h9, iRows_len, hlz, bin_quo hlz, b5, h5, W]
      refine call0 (f23_ok) (by rfl) (by rfl) (by rfl) (by rfl) ?_
      simp only [go_sem, ↓reduceIte, Nat.reduceLT, Nat.reduceEqDiff, Nat.reduceAdd, Nat.reduceMul, Nat.reduceLeDiff, Nat.reduceBEq, Nat.reduceSub, Int.reduceLT, Int.reduceLE, Int.reduceEq, Int.reduceToNat, reduceCtorEq, Nat.lt_irrefl, Nat.le_refl]

end Go.Dev.CB

/- The row of CombineInts: the argument opened, the law's call, the argument shut. -/
namespace Go.Proofs.Ytkefplbhpbdhdaa.combineIntsDone
open Go Go.ChangeShapes Go.WideShapes Go.ChangeAt Go.RowKit Go.Dev Go.Dev.Wk Go.Dev.CB

theorem cells73 : Try.prog.cellsOf 73 = 1 := by kernel_rfl

variable {H : Type} {enc : TypeId × Value → H} {w : World} {base : Nat} {spare : Nat → Bool} {held : Bool}

theorem rel_int (k : Int) : RelV w (G0 w) (.s (.int .i64 k)) (.int .i64 k) := by
  simp only [RelV]; exact ⟨trivial, rfl⟩

set_option maxRecDepth 100000 in
theorem open_ints {fuel : Nat} {cs : List Value} {x : DataW H × List MemPlace} (h : DataW.trod enc Try.prog w base spare held fuel 73 cs = some x) : ∃ (l : List Int) (v : Value), cs = [v] ∧ RelV w (G0 w) (.sl (iRows l)) v := by
  rcases DataW.trod_slice Try.underlying73 h with ⟨rfl, _⟩ | ⟨a, len, cap, elems, rest, n', rfl, rfl, _, hb, hlc, hcm, hel, hat, _, _⟩
  · exact ⟨[], _, rfl, open_nil⟩
  · rw [cells3] at hat
    obtain ⟨l, _, hl⟩ := open_sl (row := fun n : Int => [V.s (.int .i64 n)]) (n := 1) (w := w) (a := a) (fun t => rfl) (by omega) hlc (fun i hi => by
      have h1 := hat i hi
      rw [List.getElem?_eq_getElem (by omega), Option.bind_eq_some_iff] at h1
      obtain ⟨cs', h2, h3⟩ := h1
      obtain ⟨hc1, hc2⟩ := cells_at h2
      obtain ⟨k, rfl, _, _⟩ := DataW.trod_int Try.underlying3 h3
      refine ⟨k, fun j c hj => ?_⟩
      match j, hj with
      | 0, hj =>
        simp only [List.getElem?_cons_zero, Option.some.injEq] at hj
        subst hj
        refine ⟨_, ?_, rel_int k⟩
        have := hc2 0 (by omega)
        rw [Addr.add_add] at this; exact this
      | j + 1, hj => simp at hj)
    exact ⟨l, _, rfl, hl⟩

/-- A one-cell thing that is right. -/
theorem relT_one {x : V} {v : Value} (h : RelV w (G0 w) x v) : RelT (c0 w) (.one (.v x)) v := by
  simp only [RelT, RelC]
  exact h

set_option maxRecDepth 100000 in
theorem arg_ints {v : Value} {d : DataW H} {p : List MemPlace} (h : DataW.Trod enc Try.prog w base spare held 73 v d p) {r : Reach} {base2 : Nat} (hk : Value.okWide Try.prog w r base2 73 v) : ∃ l : List Int, RelT (c0 w) (.one (.v (.sl (iRows l)))) v := by
  obtain ⟨a, len, cap, rfl⟩ := okWide_slice Try.underlying73 hk
  obtain ⟨fuel, hf⟩ := h
  obtain ⟨l, v, h1, h2⟩ := open_ints hf
  have h1' : [Value.slice a len cap] = [v] := h1
  simp only [List.cons.injEq, and_true] at h1'
  subst h1'
  exact ⟨l, relT_one h2⟩

set_option maxRecDepth 100000 in
theorem lifted (os : Os) (started : os.Started) (H : Type) (enc : TypeId × Value → H) :
    ReturnsInHanded {} Try.checked os 5 .any (Rows.combineIntsSpec.pre6 enc Try.prog Try.f5 Rows.combineIntsRow.domain false) (Rows.combineIntsSpec.post enc Try.prog Try.f5 false true false false) := by
  refine returnsInHanded_of_change (C := Try.checked) own started (by kernel_rfl) Try.func5
    (ChangeSpec.witness6 (enc := enc) (C := Try.checked) false ⟨#[], #[.slice Option.none 0 0], []⟩ 8 (by kernel_rfl) (by kernel_rfl) (by kernel_rfl) (by kernel_rfl)) ?_
  intro W base args ds gs before hval0 hW hcnd _
  have hval : ∀ (j : Nat) t v, Try.f5.params[j]? = some t → args[j]? = some v → Value.okWide Try.prog W .any base t v := hval0
  have hW' := hW
  obtain ⟨p, q, hA0, hV, rfl, hfz, hnd⟩ := hW
  have hA : DataW.TrodAll enc Try.prog W 0 (fun _ => true) true Try.f5.params.toList args.toList ds p := hA0
  rw [Try.params5] at hA hval
  obtain ⟨v0, vs0, d0, ds0, p0, q0, hargs, rfl, rfl, h0, r0⟩ := trodAll_cons hA
  obtain ⟨rfl, rfl, rfl⟩ := trodAll_nil r0
  obtain rfl : args = #[v0] := by cases args; simp_all
  obtain ⟨rfl, rfl⟩ := trodVars_none hV
  obtain ⟨l, hl⟩ := arg_ints h0 (hval 0 73 v0 rfl rfl)
  have k0 := h0
  have lt0 : ∀ x ∈ p0, x.block < W.heap.size := by obtain ⟨m, hm⟩ := k0; exact DataW.trod_lt m _ _ _ hm
  clear hA0 hval0
  refine (calls_true (f5_ok l) rfl (w := W) (vs := [v0]) (by simp only [RelTs]; exact ⟨hl, trivial⟩)).mono fun e W' ⟨he, bel⟩ => ?_
  subst he
  exact ⟨_, rfl, _, _, _, [], _, [], hW', trodAll_mk1 (shut_bool Try.underlying4 _), (trodAll_cons_mk (Below.trod laidOut (by kernel_rfl) (of_decide_eq_true (by kernel_rfl)) k0 bel lt0) trodAll_mk0), rfl, bel.frame _, fun h => by cases h⟩

theorem over : Rows.combineIntsRow.holds Try.pinned (OpenSpec.ofChange Rows.combineIntsSpec) :=
  OpenClaim.holds_of_wide 5 Try.f5 rfl rfl rfl rfl rfl rfl rfl ⟨rfl, rfl, rfl, rfl, rfl⟩ rfl rfl rfl rfl rfl (by kernel_rfl) Try.func5 (by kernel_rfl)
    (of_decide_eq_true (by kernel_rfl)) (by unfold Func.isWrapper; first | (rw [if_pos (by decide +kernel)]; kernel_rfl) | (rw [if_neg (by decide +kernel)]; exact ⟨rfl, rfl⟩))
    (fun os started H enc _ => lifted os started H enc)

/-- The statement. -/
theorem proved : Rows.CombineIntsSaid := over
#print axioms proved

end Go.Proofs.Ytkefplbhpbdhdaa.combineIntsDone
