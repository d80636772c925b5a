/- An evaluator by value of the translated code, and a calculus of it: what it computes, the machine of the model computes (for the operations that are listed, under no further condition). -/
import Derived.Test.YtkefplbhpbdhdaaDc
import Derived.Test.YtkefplbhpbdhdaaDd
set_option linter.all false
/- Code whose region draws one of two ways: from the calculus to the machine. -/
namespace Go.Dev.Wk
open Go Go.Dev Go.RowKit

variable {P : Program} {pol : Nat → Pol} {E : Env}

/-- Every way through the code ends as told. -/
def MW (P : Program) (code : Code) (fr : Fr) (Q : Ex → Fr → Prop) : Prop :=
  ∀ (e : Ent) (c : Cx) (a : Act), RelFr e c fr a.tmps → code.wp P (fun e' a' w' => ∃ ex fr', Q ex fr' ∧ fr.alike fr' ∧ Ends e c a ex fr' e' a' w') a c.w

theorem mw_ev (L : Laid P pol E) {f : Nat} {code : Code} {dc : DCode} {fr : Fr} {Q : Ex → Fr → Prop} (hc : cC P (pol f) code = some dc) (h : Wp E dc fr [] Q) : MW P code fr Q := by
  obtain ⟨ex, fr', ⟨N, M, h1⟩, hg⟩ := h
  intro e c a R
  exact Go.wp_mono ((code_sound (ev_good L N) L.ext L.mixed M dc fr ex fr' h1).1 code c a hc R) fun e' a' w' hen => ⟨ex, fr', hg, evC_n _ _ _ _ _ h1, hen⟩

def Thn (P : Program) (code : Code) (Q : Ex → Fr → Prop) : Ex → Fr → Prop
  | .nrm, fr => MW P code fr Q
  | ex, fr => Q ex fr

theorem mw_seq {x y : Code} {fr : Fr} {Q : Ex → Fr → Prop} (h : MW P x fr (Thn P y Q)) : MW P (.seq x y) fr Q := by
  intro e c a R
  refine Go.wp_seq (Go.wp_mono (h e c a R) fun e' a' w' hen => ?_)
  obtain ⟨ex, fr1, hq, hal, rfl, c1, rfl, H1, R1, hd1⟩ := hen
  cases ex with
  | nrm =>
    simp only [exOf, Exit.then]
    refine Go.wp_mono (hq e c1 a' R1) fun e2 a2 w2 h2 => ?_
    obtain ⟨ex2, fr2, hq2, hal2, hen2⟩ := h2
    exact ⟨ex2, fr2, hq2, ⟨hal2.1.trans hal.1, hal2.2.trans hal.2⟩, hen2.later H1 hd1⟩
  | exit i => exact ⟨_, fr1, hq, hal, rfl, c1, rfl, H1, R1, hd1⟩
  | goto l => exact ⟨_, fr1, hq, hal, rfl, c1, rfl, H1, R1, hd1⟩
  | ret => exact ⟨_, fr1, hq, hal, rfl, c1, rfl, H1, R1, hd1⟩

theorem cC_seq {po : Pol} {code : Code} {x y : DCode} (h : cC P po code = some (.seq x y)) : ∃ a b, code = .seq a b ∧ cC P po a = some x ∧ cC P po b = some y := by
  cases code with
  | seq a b =>
    simp only [cC] at h
    split at h
    · rename_i p q hp hq
      simp only [Option.some.injEq, DCode.seq.injEq] at h
      obtain ⟨rfl, rfl⟩ := h
      exact ⟨a, b, rfl, hp, hq⟩
    · cases h
  | region id ops draw =>
    simp only [cC, cRegion] at h
    split at h
    · cases h
    · split at h
      · split at h <;> cases h
      · cases h
  | cond c a b => simp only [cC] at h; split at h <;> cases h
  | block i c => simp only [cC] at h; cases hx : cC P po c <;> simp [hx] at h
  | loop c => simp only [cC] at h; cases hx : cC P po c <;> simp [hx] at h
  | scope c => simp only [cC] at h; cases hx : cC P po c <;> simp [hx] at h
  | _ => simp [cC] at h

theorem step_run {ext : Ext} {call : CallF} {o : DOper} {os : List DOper} {fr fr' : Fr} {fs : List Foot} (h : run ext call (o :: os) fr = some (fr', fs)) : ∃ f1 ls ws fs', step ext call o fr = some (f1, ls, ws) ∧ run ext call os f1 = some (fr', fs') := by
  simp only [run] at h
  cases h1 : step ext call o fr with
  | none => simp [h1] at h
  | some q =>
    obtain ⟨f1, ls, ws⟩ := q
    simp only [h1] at h
    cases h2 : run ext call os f1 with
    | none => simp [h2] at h
    | some q2 =>
      obtain ⟨f2, fs2⟩ := q2
      simp only [h2, Option.some.injEq, Prod.mk.injEq] at h
      exact ⟨f1, ls, ws, fs2, rfl, by rw [h2, h.1]⟩

theorem wr_run {os : List DOper} {fr : Fr} {Q : Ex → Fr → Prop} (h : Wp E (.region os []) fr [] Q) : ∃ N fr' fs, run E.ext (evF E N) os fr = some (fr', fs) ∧ Q .nrm fr' := by
  rw [wp_region] at h
  obtain ⟨N, fr', fs', h1, _, h2⟩ := h
  exact ⟨N, fr', fs', h1, h2⟩

theorem run_n {ext : Ext} {call : CallF} {os : List DOper} {fr fr' : Fr} {fs : List Foot} (h : run ext call os fr = some (fr', fs)) : fr.alike fr' :=
  evC_n (ext := ext) (call := call) 1 (.region os []) fr .nrm fr' (by simp only [evC, h, checkBad, if_true])

/-- Four operations, the two in the middle in either order. -/
theorem mw_pick (L : Laid P pol E) {f id : Nat} {ops : Array Oper} {d0 d1 d2 d3 : DOper} {fr : Fr} {Q : Ex → Fr → Prop} (hds : cOpers P (pol f) ops ops.toList = some [d0, d1, d2, d3])
    (hsz : ops.size = 4) (hr0 : Region.ready .any ops #[false, false, false, false] = [0]) (hr1 : Region.ready .any ops #[true, false, false, false] = [1, 2])
    (hr2 : Region.ready .any ops #[true, true, false, false] = [2]) (hr2' : Region.ready .any ops #[true, false, true, false] = [1]) (hr3 : Region.ready .any ops #[true, true, true, false] = [3]) (hr4 : Region.ready .any ops #[true, true, true, true] = [])
    (h1 : Wp E (.region [d0, d1, d2, d3] []) fr [] Q) (h2 : Wp E (.region [d0, d2, d1, d3] []) fr [] Q) : MW P (.region id ops true) fr Q := by
  obtain ⟨N1, fr1, fs1, r1, q1⟩ := wr_run h1
  obtain ⟨N2, fr2, fs2, r2, q2⟩ := wr_run h2
  have r1 := run_le (evF_le E N1 _ (Nat.le_max_left N1 N2)) E.ext _ _ _ r1
  have r2 := run_le (evF_le E N2 _ (Nat.le_max_right N1 N2)) E.ext _ _ _ r2
  have G := ev_good L (max N1 N2)
  have al1 := run_n r1
  have al2 := run_n r2
  generalize evF E (max N1 N2) = call at r1 r2 G
  obtain ⟨_, hat⟩ := cOpers_at hds
  obtain ⟨o0, p0, e0⟩ := hat 0 d0 rfl
  obtain ⟨o1, p1, e1⟩ := hat 1 d1 rfl
  obtain ⟨o2, p2, e2⟩ := hat 2 d2 rfl
  obtain ⟨o3, p3, e3⟩ := hat 3 d3 rfl
  rw [Array.getElem?_toList] at p0 p1 p2 p3
  obtain ⟨f0, l0, w0, _, s0, r1⟩ := step_run r1
  obtain ⟨f0', l0', w0', _, s0', r2⟩ := step_run r2
  rw [s0] at s0'
  simp only [Option.some.injEq, Prod.mk.injEq] at s0'
  obtain ⟨rfl, rfl, rfl⟩ := s0'
  obtain ⟨fa, la, wa, _, sa, r1⟩ := step_run r1
  obtain ⟨fb, lb, wb, _, sb, r1⟩ := step_run r1
  obtain ⟨fc, lc, wc, _, sc, r1⟩ := step_run r1
  obtain ⟨ga, ma, xa, _, ta, r2⟩ := step_run r2
  obtain ⟨gb, mb, xb, _, tb, r2⟩ := step_run r2
  obtain ⟨gc, mc, xc, _, tc, r2⟩ := step_run r2
  simp only [run, Option.some.injEq, Prod.mk.injEq] at r1 r2
  obtain ⟨rfl, _⟩ := r1
  obtain ⟨rfl, _⟩ := r2
  intro e c a R
  refine wp_region_any L.mixed ?_
  have R0 : RelFr e (c.at { c.w with drawn := c.w.drawn + 1 }) fr a.tmps := R.of_heap rfl rfl rfl rfl
  have H0 := CxLe.of_heap (c := c) (w' := { c.w with drawn := c.w.drawn + 1 }) rfl
  rw [hsz]
  show wpAny P .any ops _ 4 #[false, false, false, false] a (c.at { c.w with drawn := c.w.drawn + 1 }).w
  simp only [wpAny, hr0]
  refine ⟨fun h => (nomatch h), fun i hi => ?_⟩
  obtain rfl := List.mem_singleton.1 hi
  refine wpOp_step G L.ext R0 p0 e0 s0 fun c1 a1 H1 R1 hd1 => ?_
  show _ ∧ _
  rw [show (#[false, false, false, false].setIfInBounds 0 true : Array Bool) = #[true, false, false, false] from rfl, hr1]
  refine ⟨fun h => (nomatch h), fun i hi => ?_⟩
  simp only [List.mem_cons, List.not_mem_nil, or_false] at hi
  rcases hi with rfl | rfl
  · refine wpOp_step G L.ext R1 p1 e1 sa fun c2 a2 H2 R2 hd2 => ?_
    show _ ∧ _
    rw [show (#[true, false, false, false].setIfInBounds 1 true : Array Bool) = #[true, true, false, false] from rfl, hr2]
    refine ⟨fun h => (nomatch h), fun i hi => ?_⟩
    obtain rfl := List.mem_singleton.1 hi
    refine wpOp_step G L.ext R2 p2 e2 sb fun c3 a3 H3 R3 hd3 => ?_
    show _ ∧ _
    rw [show (#[true, true, false, false].setIfInBounds 2 true : Array Bool) = #[true, true, true, false] from rfl, hr3]
    refine ⟨fun h => (nomatch h), fun i hi => ?_⟩
    obtain rfl := List.mem_singleton.1 hi
    refine wpOp_step G L.ext R3 p3 e3 sc fun c4 a4 H4 R4 hd4 => ?_
    show _ ∧ _
    rw [show (#[true, true, true, false].setIfInBounds 3 true : Array Bool) = #[true, true, true, true] from rfl, hr4]
    exact ⟨rfl, .nrm, fc, q1, al1, rfl, c4, rfl, (((H0.trans H1).trans H2).trans H3).trans H4, R4, by rw [hd4, hd3, hd2, hd1]⟩
  · refine wpOp_step G L.ext R1 p2 e2 ta fun c2 a2 H2 R2 hd2 => ?_
    show _ ∧ _
    rw [show (#[true, false, false, false].setIfInBounds 2 true : Array Bool) = #[true, false, true, false] from rfl, hr2']
    refine ⟨fun h => (nomatch h), fun i hi => ?_⟩
    obtain rfl := List.mem_singleton.1 hi
    refine wpOp_step G L.ext R2 p1 e1 tb fun c3 a3 H3 R3 hd3 => ?_
    show _ ∧ _
    rw [show (#[true, false, true, false].setIfInBounds 1 true : Array Bool) = #[true, true, true, false] from rfl, hr3]
    refine ⟨fun h => (nomatch h), fun i hi => ?_⟩
    obtain rfl := List.mem_singleton.1 hi
    refine wpOp_step G L.ext R3 p3 e3 tc fun c4 a4 H4 R4 hd4 => ?_
    show _ ∧ _
    rw [show (#[true, true, true, false].setIfInBounds 3 true : Array Bool) = #[true, true, true, true] from rfl, hr4]
    exact ⟨rfl, .nrm, gc, q2, al2, rfl, c4, rfl, (((H0.trans H1).trans H2).trans H3).trans H4, R4, by rw [hd4, hd3, hd2, hd1]⟩

theorem thn_nrm {code : Code} {Q : Ex → Fr → Prop} {fr : Fr} : Thn P code Q .nrm fr ↔ MW P code fr Q := Iff.rfl
theorem thn_ret {code : Code} {Q : Ex → Fr → Prop} {fr : Fr} : Thn P code Q .ret fr ↔ Q .ret fr := Iff.rfl
attribute [go_sem] thn_nrm thn_ret

/-- A function from outside, whichever way is drawn. -/
theorem top_mw (L : Laid P pol E) {f : Nat} {d : DFn} {fn : Func} {body : Code} (f1 : P.funcs[f]? = some fn) (f2 : fn.body = some body) (f4 : cFn P (pol f) fn = some d) {args : List T} {r : T} (hh : handedTs args = true)
    (h : MW P body (enter d args []) (Fin d.res false r [])) {w : World} {vs : List Value} (ha : RelTs (c0 w) args vs) :
    Calls P f ⟨vs⟩ w fun en w' => ∃ v c', en = .returned v ∧ c'.w = w' ∧ RelT c' r v ∧ Below w.heap.size w w' := by
  obtain ⟨body', g1, g2, g3, g4⟩ := cFn_inv f4
  rw [f2, Option.some.injEq] at g1
  subst g1
  have R := entry0 w
  have R0 := fn_entry (e0 := ⟨w, G0 w, fun _ => .no⟩) (c := c0 w) (fo := []) d rfl R ha hh rfl
  refine calls_of_wp f1 f2 ?_
  have hargs : (⟨vs⟩ ++ Array.replicate (fn.ntmps - (Array.mk vs).size) undef : Array Value) = ⟨vs⟩ ++ Array.replicate (d.ntmps - vs.length) undef := by rw [g2]; rfl
  rw [hargs]
  refine Go.wp_mono (h _ ((c0 w).into d.ntmps) ⟨⟨vs⟩ ++ Array.replicate (d.ntmps - vs.length) undef, []⟩ R0) fun e' a' w' hen => ?_
  obtain ⟨ex, fr, hfin, hal, rfl, c1, rfl, H1, R1, hd1⟩ := hen
  have hfrn : fr.n = d.ntmps := by rw [hal.1]; rfl
  have key : ∀ rs, getAll fr d.res = some rs → finish false fr rs = some (r, []) → a'.defers = [] ∧ ∃ v, (results fn a'.tmps).run P c1.w = .ok v c1.w ∧ ∃ v' c', Ending.returned v = .returned v' ∧ c'.w = c1.w ∧ RelT c' r v' ∧ Below w.heap.size w c1.w := by
    intro rs hga hf
    obtain ⟨us, u1, u2⟩ := results_rel (P := P) R1 g4 hga
    have hnfo : (c0 w).nfo = fr.fo.length := by rw [hal.2]; rfl
    obtain ⟨c', q1, q2, q3, q4, q5⟩ := fn_out (c0 := c0 w) (e0 := ⟨w, G0 w, fun _ => .no⟩) rfl (by rw [hfrn]) R1 (by rw [hfrn]; exact H1) hnfo u1 hf
    refine ⟨hd1, _, u2, _, c', rfl, q1, q4, ?_⟩
    have hw : c'.w = c1.w := q1
    rw [← hw]
    exact ⟨q3.os, q3.tape, q3.output, q3.size, fun k hk => q3.old k hk rfl⟩
  cases ex with
  | nrm => obtain ⟨rs, e1, e2⟩ := hfin; exact key rs e1 e2
  | ret => obtain ⟨rs, e1, e2⟩ := hfin; exact key rs e1 e2
  | exit i => exact hfin.elim
  | goto i => exact hfin.elim

theorem top_mw_true (L : Laid P pol E) {f : Nat} {d : DFn} {fn : Func} {body : Code} (f1 : P.funcs[f]? = some fn) (f2 : fn.body = some body) (f4 : cFn P (pol f) fn = some d) {args : List T} (hh : handedTs args = true)
    (h : MW P body (enter d args []) (Fin d.res false (tB true) [])) {w : World} {vs : List Value} (ha : RelTs (c0 w) args vs) :
    Calls P f ⟨vs⟩ w fun en w' => en = .returned (.bool true) ∧ Below w.heap.size w w' := by
  refine (top_mw L f1 f2 f4 hh h ha).mono fun en w' hen => ?_
  obtain ⟨v, c', rfl, _, hr, hb⟩ := hen
  have := hr.lit.1
  subst this
  exact ⟨rfl, hb⟩

end Go.Dev.Wk

/- The calculus: cells that are all values. -/
namespace Go.Dev.Wk
open Go Go.Dev

theorem refsL_map (xs : List V) : refsC.refsL (xs.map C.v) = [] := by
  induction xs with
  | nil => rfl
  | cons a x ih => simp only [List.map_cons, refsL_cons, refsC_v, ih, List.nil_append]
theorem cin_map (ks : List Key) (h g : Nat) (b : Bool) (xs : List V) : cin ks h g b (xs.map C.v) = xs.map C.v := by
  induction xs with
  | nil => simp only [List.map_nil, cin_nil]
  | cons a x ih => simp only [List.map_cons, cin_v, ih]
theorem cback_map (ks : List Key) (h g : Nat) (xs : List V) : cback ks h g (xs.map C.v) = xs.map C.v := by
  induction xs with
  | nil => rfl
  | cons a x ih => simp only [List.map_cons, cback_v, ih]
theorem enterO_map (h : Nat) (xs : List V) : enterO h (xs.map C.v) = xs.map C.v := by
  induction xs with
  | nil => simp only [List.map_nil, enterO_nil]
  | cons a x ih => simp only [List.map_cons, enterO_v, ih]
theorem cout_map (fr : Fr) (xs : List V) : ∀ (b : Bool) (u : List Nat), cout fr b u (xs.map C.v) = (xs.map C.v, u) := by
  induction xs with
  | nil => intro b u; simp only [List.map_nil, cout_nil]
  | cons a x ih => intro b u; simp only [List.map_cons, cout_v, ih]

attribute [go_sem] refsL_map cin_map cback_map enterO_map cout_map List.length_map

end Go.Dev.Wk
