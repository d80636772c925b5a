/- An evaluator by value of the translated code, and a calculus of it: what it computes, the machine of the model computes (for the operations that are listed, under no further condition). -/
import Derived.Test.YtkefplbhpbdhdaaEc
import Derived.Test.YtkefplbhpbdhdaaEd
import Derived.Laws.Cover3
set_option linter.all false
/- Code whose region draws one of two ways: from the calculus to the machine. -/
namespace Go.Dev.Wk
open Go Go.Dev Go.RowKit

variable {P : Program} {pol : Nat → Pol} {E : Env}

/-- Every way through the code ends as told. -/
def MW (P : Program) (code : Code) (fr : Fr) (Q : Ex → Fr → Prop) : Prop :=
  ∀ (e : Ent) (c : Cx) (a : Act), RelFr e c fr a.tmps → code.wp P (fun e' a' w' => ∃ ex fr', Q ex fr' ∧ fr.alike fr' ∧ Ends e c a ex fr' e' a' w') a c.w

theorem mw_ev (L : Laid P pol E) {f : Nat} {code : Code} {dc : DCode} {fr : Fr} {Q : Ex → Fr → Prop} (hc : cC P (pol f) code = some dc) (h : Wp E dc fr [] Q) : MW P code fr Q := by
  obtain ⟨ex, fr', ⟨N, M, h1⟩, hg⟩ := h
  intro e c a R
  exact Go.wp_mono ((code_sound (ev_good L N) L.ext L.mixed M dc fr ex fr' h1).1 code c a hc R) fun e' a' w' hen => ⟨ex, fr', hg, evC_n _ _ _ _ _ h1, hen⟩

def Thn (P : Program) (code : Code) (Q : Ex → Fr → Prop) : Ex → Fr → Prop
  | .nrm, fr => MW P code fr Q
  | ex, fr => Q ex fr

theorem mw_seq {x y : Code} {fr : Fr} {Q : Ex → Fr → Prop} (h : MW P x fr (Thn P y Q)) : MW P (.seq x y) fr Q := by
  intro e c a R
  refine Go.wp_seq (Go.wp_mono (h e c a R) fun e' a' w' hen => ?_)
  obtain ⟨ex, fr1, hq, hal, rfl, c1, rfl, H1, R1, hd1⟩ := hen
  cases ex with
  | nrm =>
    simp only [exOf, Exit.then]
    refine Go.wp_mono (hq e c1 a' R1) fun e2 a2 w2 h2 => ?_
    obtain ⟨ex2, fr2, hq2, hal2, hen2⟩ := h2
    exact ⟨ex2, fr2, hq2, ⟨hal2.1.trans hal.1, hal2.2.trans hal.2⟩, hen2.later H1 hd1⟩
  | exit i => exact ⟨_, fr1, hq, hal, rfl, c1, rfl, H1, R1, hd1⟩
  | goto l => exact ⟨_, fr1, hq, hal, rfl, c1, rfl, H1, R1, hd1⟩
  | ret => exact ⟨_, fr1, hq, hal, rfl, c1, rfl, H1, R1, hd1⟩

theorem cC_seq {po : Pol} {code : Code} {x y : DCode} (h : cC P po code = some (.seq x y)) : ∃ a b, code = .seq a b ∧ cC P po a = some x ∧ cC P po b = some y := by
  cases code with
  | seq a b =>
    simp only [cC] at h
    split at h
    · rename_i p q hp hq
      simp only [Option.some.injEq, DCode.seq.injEq] at h
      obtain ⟨rfl, rfl⟩ := h
      exact ⟨a, b, rfl, hp, hq⟩
    · cases h
  | region id ops draw =>
    simp only [cC, cRegion] at h
    split at h
    · cases h
    · split at h
      · split at h <;> cases h
      · cases h
  | cond c a b => simp only [cC] at h; split at h <;> cases h
  | block i c => simp only [cC] at h; cases hx : cC P po c <;> simp [hx] at h
  | loop c => simp only [cC] at h; cases hx : cC P po c <;> simp [hx] at h
  | scope c => simp only [cC] at h; cases hx : cC P po c <;> simp [hx] at h
  | _ => simp [cC] at h

theorem step_run {ext : Ext} {call : CallF} {o : DOper} {os : List DOper} {fr fr' : Fr} {fs : List Foot} (h : run ext call (o :: os) fr = some (fr', fs)) : ∃ f1 ls ws fs', step ext call o fr = some (f1, ls, ws) ∧ run ext call os f1 = some (fr', fs') := by
  simp only [run] at h
  cases h1 : step ext call o fr with
  | none => simp [h1] at h
  | some q =>
    obtain ⟨f1, ls, ws⟩ := q
    simp only [h1] at h
    cases h2 : run ext call os f1 with
    | none => simp [h2] at h
    | some q2 =>
      obtain ⟨f2, fs2⟩ := q2
      simp only [h2, Option.some.injEq, Prod.mk.injEq] at h
      exact ⟨f1, ls, ws, fs2, rfl, by rw [h2, h.1]⟩

theorem wr_run {os : List DOper} {fr : Fr} {Q : Ex → Fr → Prop} (h : Wp E (.region os []) fr [] Q) : ∃ N fr' fs, run E.ext (evF E N) os fr = some (fr', fs) ∧ Q .nrm fr' := by
  rw [wp_region] at h
  obtain ⟨N, fr', fs', h1, _, h2⟩ := h
  exact ⟨N, fr', fs', h1, h2⟩

theorem run_n {ext : Ext} {call : CallF} {os : List DOper} {fr fr' : Fr} {fs : List Foot} (h : run ext call os fr = some (fr', fs)) : fr.alike fr' :=
  evC_n (ext := ext) (call := call) 1 (.region os []) fr .nrm fr' (by simp only [evC, h, checkBad, if_true])

/-- Four operations, the two in the middle in either order. -/
theorem mw_pick (L : Laid P pol E) {f id : Nat} {ops : Array Oper} {d0 d1 d2 d3 : DOper} {fr : Fr} {Q : Ex → Fr → Prop} (hds : cOpers P (pol f) ops ops.toList = some [d0, d1, d2, d3])
    (hsz : ops.size = 4) (hr0 : Region.ready .any ops #[false, false, false, false] = [0]) (hr1 : Region.ready .any ops #[true, false, false, false] = [1, 2])
    (hr2 : Region.ready .any ops #[true, true, false, false] = [2]) (hr2' : Region.ready .any ops #[true, false, true, false] = [1]) (hr3 : Region.ready .any ops #[true, true, true, false] = [3]) (hr4 : Region.ready .any ops #[true, true, true, true] = [])
    (h1 : Wp E (.region [d0, d1, d2, d3] []) fr [] Q) (h2 : Wp E (.region [d0, d2, d1, d3] []) fr [] Q) : MW P (.region id ops true) fr Q := by
  obtain ⟨N1, fr1, fs1, r1, q1⟩ := wr_run h1
  obtain ⟨N2, fr2, fs2, r2, q2⟩ := wr_run h2
  have r1 := run_le (evF_le E N1 _ (Nat.le_max_left N1 N2)) E.ext _ _ _ r1
  have r2 := run_le (evF_le E N2 _ (Nat.le_max_right N1 N2)) E.ext _ _ _ r2
  have G := ev_good L (max N1 N2)
  have al1 := run_n r1
  have al2 := run_n r2
  generalize evF E (max N1 N2) = call at r1 r2 G
  obtain ⟨_, hat⟩ := cOpers_at hds
  obtain ⟨o0, p0, e0⟩ := hat 0 d0 rfl
  obtain ⟨o1, p1, e1⟩ := hat 1 d1 rfl
  obtain ⟨o2, p2, e2⟩ := hat 2 d2 rfl
  obtain ⟨o3, p3, e3⟩ := hat 3 d3 rfl
  rw [Array.getElem?_toList] at p0 p1 p2 p3
  obtain ⟨f0, l0, w0, _, s0, r1⟩ := step_run r1
  obtain ⟨f0', l0', w0', _, s0', r2⟩ := step_run r2
  rw [s0] at s0'
  simp only [Option.some.injEq, Prod.mk.injEq] at s0'
  obtain ⟨rfl, rfl, rfl⟩ := s0'
  obtain ⟨fa, la, wa, _, sa, r1⟩ := step_run r1
  obtain ⟨fb, lb, wb, _, sb, r1⟩ := step_run r1
  obtain ⟨fc, lc, wc, _, sc, r1⟩ := step_run r1
  obtain ⟨ga, ma, xa, _, ta, r2⟩ := step_run r2
  obtain ⟨gb, mb, xb, _, tb, r2⟩ := step_run r2
  obtain ⟨gc, mc, xc, _, tc, r2⟩ := step_run r2
  simp only [run, Option.some.injEq, Prod.mk.injEq] at r1 r2
  obtain ⟨rfl, _⟩ := r1
  obtain ⟨rfl, _⟩ := r2
  intro e c a R
  refine wp_region_any L.mixed ?_
  have R0 : RelFr e (c.at { c.w with drawn := c.w.drawn + 1 }) fr a.tmps := R.of_heap rfl rfl rfl rfl
  have H0 := CxLe.of_heap (c := c) (w' := { c.w with drawn := c.w.drawn + 1 }) rfl
  rw [hsz]
  show wpAny P .any ops _ 4 #[false, false, false, false] a (c.at { c.w with drawn := c.w.drawn + 1 }).w
  simp only [wpAny, hr0]
  refine ⟨fun h => (nomatch h), fun i hi => ?_⟩
  obtain rfl := List.mem_singleton.1 hi
  refine wpOp_step G L.ext R0 p0 e0 s0 fun c1 a1 H1 R1 hd1 => ?_
  show _ ∧ _
  rw [show (#[false, false, false, false].setIfInBounds 0 true : Array Bool) = #[true, false, false, false] from rfl, hr1]
  refine ⟨fun h => (nomatch h), fun i hi => ?_⟩
  simp only [List.mem_cons, List.not_mem_nil, or_false] at hi
  rcases hi with rfl | rfl
  · refine wpOp_step G L.ext R1 p1 e1 sa fun c2 a2 H2 R2 hd2 => ?_
    show _ ∧ _
    rw [show (#[true, false, false, false].setIfInBounds 1 true : Array Bool) = #[true, true, false, false] from rfl, hr2]
    refine ⟨fun h => (nomatch h), fun i hi => ?_⟩
    obtain rfl := List.mem_singleton.1 hi
    refine wpOp_step G L.ext R2 p2 e2 sb fun c3 a3 H3 R3 hd3 => ?_
    show _ ∧ _
    rw [show (#[true, true, false, false].setIfInBounds 2 true : Array Bool) = #[true, true, true, false] from rfl, hr3]
    refine ⟨fun h => (nomatch h), fun i hi => ?_⟩
    obtain rfl := List.mem_singleton.1 hi
    refine wpOp_step G L.ext R3 p3 e3 sc fun c4 a4 H4 R4 hd4 => ?_
    show _ ∧ _
    rw [show (#[true, true, true, false].setIfInBounds 3 true : Array Bool) = #[true, true, true, true] from rfl, hr4]
    exact ⟨rfl, .nrm, fc, q1, al1, rfl, c4, rfl, (((H0.trans H1).trans H2).trans H3).trans H4, R4, by rw [hd4, hd3, hd2, hd1]⟩
  · refine wpOp_step G L.ext R1 p2 e2 ta fun c2 a2 H2 R2 hd2 => ?_
    show _ ∧ _
    rw [show (#[true, false, false, false].setIfInBounds 2 true : Array Bool) = #[true, false, true, false] from rfl, hr2']
    refine ⟨fun h => (nomatch h), fun i hi => ?_⟩
    obtain rfl := List.mem_singleton.1 hi
    refine wpOp_step G L.ext R2 p1 e1 tb fun c3 a3 H3 R3 hd3 => ?_
    show _ ∧ _
    rw [show (#[true, false, true, false].setIfInBounds 1 true : Array Bool) = #[true, true, true, false] from rfl, hr3]
    refine ⟨fun h => (nomatch h), fun i hi => ?_⟩
    obtain rfl := List.mem_singleton.1 hi
    refine wpOp_step G L.ext R3 p3 e3 tc fun c4 a4 H4 R4 hd4 => ?_
    show _ ∧ _
    rw [show (#[true, true, true, false].setIfInBounds 3 true : Array Bool) = #[true, true, true, true] from rfl, hr4]
    exact ⟨rfl, .nrm, gc, q2, al2, rfl, c4, rfl, (((H0.trans H1).trans H2).trans H3).trans H4, R4, by rw [hd4, hd3, hd2, hd1]⟩

theorem thn_nrm {code : Code} {Q : Ex → Fr → Prop} {fr : Fr} : Thn P code Q .nrm fr ↔ MW P code fr Q := Iff.rfl
theorem thn_ret {code : Code} {Q : Ex → Fr → Prop} {fr : Fr} : Thn P code Q .ret fr ↔ Q .ret fr := Iff.rfl
attribute [go_sem] thn_nrm thn_ret

/-- A function from outside, whichever way is drawn. -/
theorem top_mw (L : Laid P pol E) {f : Nat} {d : DFn} {fn : Func} {body : Code} (f1 : P.funcs[f]? = some fn) (f2 : fn.body = some body) (f4 : cFn P (pol f) fn = some d) {args : List T} {r : T} (hh : handedTs args = true)
    (h : MW P body (enter d args []) (Fin d.res false r [])) {w : World} {vs : List Value} (ha : RelTs (c0 w) args vs) :
    Calls P f ⟨vs⟩ w fun en w' => ∃ v c', en = .returned v ∧ c'.w = w' ∧ RelT c' r v ∧ Below w.heap.size w w' := by
  obtain ⟨body', g1, g2, g3, g4⟩ := cFn_inv f4
  rw [f2, Option.some.injEq] at g1
  subst g1
  have R := entry0 w
  have R0 := fn_entry (e0 := ⟨w, G0 w, fun _ => .no⟩) (c := c0 w) (fo := []) d rfl R ha hh rfl
  refine calls_of_wp f1 f2 ?_
  have hargs : (⟨vs⟩ ++ Array.replicate (fn.ntmps - (Array.mk vs).size) undef : Array Value) = ⟨vs⟩ ++ Array.replicate (d.ntmps - vs.length) undef := by rw [g2]; rfl
  rw [hargs]
  refine Go.wp_mono (h _ ((c0 w).into d.ntmps) ⟨⟨vs⟩ ++ Array.replicate (d.ntmps - vs.length) undef, []⟩ R0) fun e' a' w' hen => ?_
  obtain ⟨ex, fr, hfin, hal, rfl, c1, rfl, H1, R1, hd1⟩ := hen
  have hfrn : fr.n = d.ntmps := by rw [hal.1]; rfl
  have key : ∀ rs, getAll fr d.res = some rs → finish false fr rs = some (r, []) → a'.defers = [] ∧ ∃ v, (results fn a'.tmps).run P c1.w = .ok v c1.w ∧ ∃ v' c', Ending.returned v = .returned v' ∧ c'.w = c1.w ∧ RelT c' r v' ∧ Below w.heap.size w c1.w := by
    intro rs hga hf
    obtain ⟨us, u1, u2⟩ := results_rel (P := P) R1 g4 hga
    have hnfo : (c0 w).nfo = fr.fo.length := by rw [hal.2]; rfl
    obtain ⟨c', q1, q2, q3, q4, q5⟩ := fn_out (c0 := c0 w) (e0 := ⟨w, G0 w, fun _ => .no⟩) rfl (by rw [hfrn]) R1 (by rw [hfrn]; exact H1) hnfo u1 hf
    refine ⟨hd1, _, u2, _, c', rfl, q1, q4, ?_⟩
    have hw : c'.w = c1.w := q1
    rw [← hw]
    exact ⟨q3.os, q3.tape, q3.output, q3.size, fun k hk => q3.old k hk rfl⟩
  cases ex with
  | nrm => obtain ⟨rs, e1, e2⟩ := hfin; exact key rs e1 e2
  | ret => obtain ⟨rs, e1, e2⟩ := hfin; exact key rs e1 e2
  | exit i => exact hfin.elim
  | goto i => exact hfin.elim

theorem top_mw_true (L : Laid P pol E) {f : Nat} {d : DFn} {fn : Func} {body : Code} (f1 : P.funcs[f]? = some fn) (f2 : fn.body = some body) (f4 : cFn P (pol f) fn = some d) {args : List T} (hh : handedTs args = true)
    (h : MW P body (enter d args []) (Fin d.res false (tB true) [])) {w : World} {vs : List Value} (ha : RelTs (c0 w) args vs) :
    Calls P f ⟨vs⟩ w fun en w' => en = .returned (.bool true) ∧ Below w.heap.size w w' := by
  refine (top_mw L f1 f2 f4 hh h ha).mono fun en w' hen => ?_
  obtain ⟨v, c', rfl, _, hr, hb⟩ := hen
  have := hr.lit.1
  subst this
  exact ⟨rfl, hb⟩

end Go.Dev.Wk

/- The calculus: cells that are all values. -/
namespace Go.Dev.Wk
open Go Go.Dev

theorem refsL_map (xs : List V) : refsC.refsL (xs.map C.v) = [] := by
  induction xs with
  | nil => rfl
  | cons a x ih => simp only [List.map_cons, refsL_cons, refsC_v, ih, List.nil_append]
theorem cin_map (ks : List Key) (h g : Nat) (b : Bool) (xs : List V) : cin ks h g b (xs.map C.v) = xs.map C.v := by
  induction xs with
  | nil => simp only [List.map_nil, cin_nil]
  | cons a x ih => simp only [List.map_cons, cin_v, ih]
theorem cback_map (ks : List Key) (h g : Nat) (xs : List V) : cback ks h g (xs.map C.v) = xs.map C.v := by
  induction xs with
  | nil => rfl
  | cons a x ih => simp only [List.map_cons, cback_v, ih]
theorem enterO_map (h : Nat) (xs : List V) : enterO h (xs.map C.v) = xs.map C.v := by
  induction xs with
  | nil => simp only [List.map_nil, enterO_nil]
  | cons a x ih => simp only [List.map_cons, enterO_v, ih]
theorem cout_map (fr : Fr) (xs : List V) : ∀ (b : Bool) (u : List Nat), cout fr b u (xs.map C.v) = (xs.map C.v, u) := by
  induction xs with
  | nil => intro b u; simp only [List.map_nil, cout_nil]
  | cons a x ih => intro b u; simp only [List.map_cons, cout_v, ih]

attribute [go_sem] refsL_map cin_map cback_map enterO_map cout_map List.length_map

end Go.Dev.Wk

/- A function told by all ways through its code; a list held against nil. -/
namespace Go.Dev.Wk
open Go Go.Dev Go.RowKit

variable {P : Program} {pol : Nat → Pol} {E : Env}

/-- A function's law in any place, whichever way is drawn. -/
theorem mw_good {ad : Bool} {f : Nat} {d : DFn} {fn : Func} {body : Code} (f1 : P.funcs[f]? = some fn) (f3 : (fn.name == "runtime.NumGoroutine") = false) (f2 : fn.body = some body) (g2 : d.ntmps = fn.ntmps) (g4 : cRes P fn.results.toList = some d.res)
    {args : List T} {fo fo' : List Ob} {r : T} (hha : handedTs args = true) (hho : handedO fo = true) (h : MW P body (enter d args fo) (Fin d.res ad r fo')) :
    Enters P f ∧ ∀ (c : Cx) (vs : List Value), RelFr ⟨c.w, c.gh.G, c.gh.ow⟩ c (HandF fo) #[] → RelTs c args vs →
      Calls P f ⟨vs⟩ c.w fun en w' => ∃ v c', en = .returned v ∧ c'.w = w' ∧ OutLe c c' ∧ RelFr ⟨c.w, c.gh.G, c.gh.ow⟩ c' (HandF fo') #[] ∧ RelT c' r v ∧ fo'.length = fo.length + (if ad then 1 else 0) := by
  refine ⟨⟨fn, f1, f3, by rw [f2]; rfl⟩, fun c vs R ha => ?_⟩
  have R0 := fn_entry d rfl R ha hha hho
  refine calls_of_wp f1 f2 ?_
  have hargs : (⟨vs⟩ ++ Array.replicate (fn.ntmps - (Array.mk vs).size) undef : Array Value) = ⟨vs⟩ ++ Array.replicate (d.ntmps - vs.length) undef := by rw [g2]; rfl
  rw [hargs]
  refine Go.wp_mono (h _ (c.into d.ntmps) ⟨⟨vs⟩ ++ Array.replicate (d.ntmps - vs.length) undef, []⟩ R0) fun e' a' w' hen => ?_
  obtain ⟨ex, fr, hfin, hal, rfl, c1, rfl, H1, R1, hd1⟩ := hen
  have hfrn : fr.n = d.ntmps := by rw [hal.1]; rfl
  have key : ∀ rs, getAll fr d.res = some rs → finish ad fr rs = some (r, fo') → a'.defers = [] ∧ ∃ v, (results fn a'.tmps).run P c1.w = .ok v c1.w ∧ ∃ v' c', Ending.returned v = .returned v' ∧ c'.w = c1.w ∧ OutLe c c' ∧ RelFr ⟨c.w, c.gh.G, c.gh.ow⟩ c' (HandF fo') #[] ∧ RelT c' r v' ∧ fo'.length = fo.length + (if ad then 1 else 0) := by
    intro rs hga hf
    obtain ⟨us, u1, u2⟩ := results_rel (P := P) R1 g4 hga
    have hnfo : c.nfo = fr.fo.length := by
      rw [hal.2]
      have h1 := R.nfo
      simp only [HandF, enterF_len] at h1
      simp only [enter, enterF_len, h1]
    obtain ⟨c', q1, q2, q3, q4, q5⟩ := fn_out (c0 := c) rfl (by rw [hfrn]) R1 (by rw [hfrn]; exact H1) hnfo u1 hf
    refine ⟨hd1, _, u2, _, c', rfl, q1, q2, q3, q4, ?_⟩
    rw [q5]
    have h1 := R.nfo
    simp only [HandF, enterF_len] at h1
    rw [h1]
  cases ex with
  | nrm => obtain ⟨rs, e1, e2⟩ := hfin; exact key rs e1 e2
  | ret => obtain ⟨rs, e1, e2⟩ := hfin; exact key rs e1 e2
  | exit i => exact hfin.elim
  | goto i => exact hfin.elim

/-- The same, where more is known of the value that is returned. -/
theorem mw_good2 {ad : Bool} {f : Nat} {d : DFn} {fn : Func} {body : Code} (f1 : P.funcs[f]? = some fn) (f3 : (fn.name == "runtime.NumGoroutine") = false) (f2 : fn.body = some body) (g2 : d.ntmps = fn.ntmps) (g4 : cRes P fn.results.toList = some d.res)
    {args : List T} {fo fo' : List Ob} {r : T} {X : Value → Prop} {Q : Ex → Fr → Prop} (hha : handedTs args = true) (hho : handedO fo = true) (h : MW P body (enter d args fo) Q)
    (hQ : ∀ ex fr, Q ex fr → (ex = .nrm ∨ ex = .ret) ∧ ∃ rs, getAll fr d.res = some rs ∧ finish ad fr rs = some (r, fo') ∧ ∀ c us, RelTs c rs us → X (resV us)) :
    Enters P f ∧ ∀ (c : Cx) (vs : List Value), RelFr ⟨c.w, c.gh.G, c.gh.ow⟩ c (HandF fo) #[] → RelTs c args vs →
      Calls P f ⟨vs⟩ c.w fun en w' => ∃ v c', en = .returned v ∧ c'.w = w' ∧ OutLe c c' ∧ RelFr ⟨c.w, c.gh.G, c.gh.ow⟩ c' (HandF fo') #[] ∧ (RelT c' r v ∧ X v) ∧ fo'.length = fo.length + (if ad then 1 else 0) := by
  refine ⟨⟨fn, f1, f3, by rw [f2]; rfl⟩, fun c vs R ha => ?_⟩
  have R0 := fn_entry d rfl R ha hha hho
  refine calls_of_wp f1 f2 ?_
  have hargs : (⟨vs⟩ ++ Array.replicate (fn.ntmps - (Array.mk vs).size) undef : Array Value) = ⟨vs⟩ ++ Array.replicate (d.ntmps - vs.length) undef := by rw [g2]; rfl
  rw [hargs]
  refine Go.wp_mono (h _ (c.into d.ntmps) ⟨⟨vs⟩ ++ Array.replicate (d.ntmps - vs.length) undef, []⟩ R0) fun e' a' w' hen => ?_
  obtain ⟨ex, fr, hfin, hal, rfl, c1, rfl, H1, R1, hd1⟩ := hen
  obtain ⟨hex, rs, hga, hf, hX⟩ := hQ ex fr hfin
  have hfrn : fr.n = d.ntmps := by rw [hal.1]; rfl
  obtain ⟨us, u1, u2⟩ := results_rel (P := P) R1 g4 hga
  have hnfo : c.nfo = fr.fo.length := by
    rw [hal.2]
    have h1 := R.nfo
    simp only [HandF, enterF_len] at h1
    simp only [enter, enterF_len, h1]
  obtain ⟨c', q1, q2, q3, q4, q5⟩ := fn_out (c0 := c) rfl (by rw [hfrn]) R1 (by rw [hfrn]; exact H1) hnfo u1 hf
  have key : a'.defers = [] ∧ ∃ v, (results fn a'.tmps).run P c1.w = .ok v c1.w ∧ ∃ v' c', Ending.returned v = .returned v' ∧ c'.w = c1.w ∧ OutLe c c' ∧ RelFr ⟨c.w, c.gh.G, c.gh.ow⟩ c' (HandF fo') #[] ∧ (RelT c' r v' ∧ X v') ∧ fo'.length = fo.length + (if ad then 1 else 0) := by
    refine ⟨hd1, _, u2, _, c', rfl, q1, q2, q3, ⟨q4, hX _ _ u1⟩, ?_⟩
    rw [q5]
    have h1 := R.nfo
    simp only [HandF, enterF_len] at h1
    rw [h1]
  rcases hex with rfl | rfl
  · exact key
  · exact key

/-- A list, moved, and held against nil: of one that has elements it is known. -/
theorem mw_nil {po : Pol} {id s d0 d1 : Nat} {ty el : TypeId} {o0 o1 : Oper} {fr : Fr} {es : List (List V)} {Q : Ex → Fr → Prop} (hu : P.underlying ty = some (.slice el))
    (h0 : o0.op = .move (.tmp s)) (g0 : o0.dst = some d0) (u0 : o0.guard = none) (h1 : o1.op = .binOp .eql ty (.tmp d0) (.const (.slice none 0 0)) ty) (g1 : o1.dst = some d1) (u1 : o1.guard = none)
    (hs : fr.get (.t s) = .one (.v (.sl es))) (hs2 : (putT fr (some d0) (.one (.v (.sl es)))).get (.t d0) = .one (.v (.sl es)))
    (hq : ∀ b, (es ≠ [] → b = false) → Q .nrm (putT (putT fr (some d0) (.one (.v (.sl es)))) (some d1) (tB b))) : MW P (.region id #[o0, o1] false) fr Q := by
  intro e c a R
  refine Go.wp_region ?_
  show wpOps P #[o0, o1] _ [0, 1] a c.w
  rw [wpOps_cons]
  unfold wpOp
  simp only [List.getElem?_toArray, List.getElem?_cons_zero]
  have w0 : Region.wanted o0 (yielded #[o0, o1] a.tmps) = true := by simp [Region.wanted, u0]
  rw [if_pos w0]
  left
  have r0 := get_rel R (x := .tmp s) (y := .t s) rfl
  rw [hs] at r0
  refine (Snd.toW (P := P) (e := e) (fr := fr) (fr' := fr) (t := .one (.v (.sl es))) (ws := []) (Snd.plain R (v := a.eval (.tmp s)) (by simp only [execOp, h0]; rfl) r0) rfl) _ _ fun v c' H R' ht => ?_
  have R1 := R'.put ht (some d0)
  have R1 : RelFr e c' (putT fr (some d0) (.one (.v (.sl es)))) (a.put o0.dst v).tmps := by
    rw [g0]; simpa [Act.put] using R1
  rw [wpOps_cons]
  unfold wpOp
  simp only [List.getElem?_toArray, List.getElem?_cons_succ, List.getElem?_cons_zero]
  have w1 : Region.wanted o1 (yielded #[o0, o1] (a.put o0.dst v).tmps) = true := by simp [Region.wanted, u1]
  rw [if_pos w1]
  left
  have r1 := get_rel R1 (x := .tmp d0) (y := .t d0) rfl
  rw [hs2] at r1
  have r2 := r1.one_live (by simp)
  simp only [RelC, RelV] at r2
  obtain ⟨A, len, cap, sz, e1, e2, e3, e4⟩ := r2
  have hrun : (execOp (a.put o0.dst v).eval o1).run P c'.w = .ok (.value (.bool A.isNone)) c'.w := by
    have hb : (do eqGuard .eql ty (.tmp d0) (.const (.slice none 0 0)) (.slice A len cap) (.slice none 0 0); binOp .eql ty (.slice A len cap) (.slice none 0 0)).run P c'.w = .ok (.bool A.isNone) c'.w := by
      have : (binOp .eql ty (.slice A len cap) (.slice none 0 0)).run P c'.w = .ok (.bool A.isNone) c'.w := by
        simp only [binOp]
        simp [run_equal_slice_nil c'.w ty el A len cap hu]
      simp only [eqGuard]
      simpa using this
    simp only [execOp, h1, e1]
    rw [Sem.run_bind]
    show Result.andThen ((do eqGuard .eql ty (.tmp d0) (.const (.slice none 0 0)) (.slice A len cap) (.slice none 0 0); binOp .eql ty (.slice A len cap) (.slice none 0 0)).run P c'.w) _ = _
    rw [hb]; rfl
  refine (Snd.toW (P := P) (e := e) (fr := putT fr (some d0) (.one (.v (.sl es)))) (fr' := putT fr (some d0) (.one (.v (.sl es)))) (t := tB A.isNone) (ws := []) (Snd.plain R1 hrun (RelT.one (by simp only [RelC, RelV]; exact ⟨trivial, rfl⟩))) rfl) _ _ fun v2 c2 H2 R2 ht2 => ?_
  have R3 := R2.put ht2 (some d1)
  have R3 : RelFr e c2 (putT (putT fr (some d0) (.one (.v (.sl es)))) (some d1) (tB A.isNone)) ((a.put o0.dst v).put o1.dst v2).tmps := by
    rw [g1]; simpa [Act.put] using R3
  simp only [wpOps]
  refine ⟨.nrm, _, hq A.isNone ?_, ⟨rfl, rfl⟩, rfl, c2, rfl, H.trans H2, R3, ?_⟩
  · intro hne
    rcases e4 with e4 | ⟨b, o, rfl, _⟩
    · exact absurd e4 hne
    · rfl
  · rw [g0, g1]; rfl

end Go.Dev.Wk
