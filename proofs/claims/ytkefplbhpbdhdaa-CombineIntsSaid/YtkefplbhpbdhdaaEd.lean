/- An evaluator by value of the translated code, and a calculus of it: what it computes, the machine of the model computes (for the operations that are listed, under no further condition). -/
import Derived.Test.YtkefplbhpbdhdaaEc
import Derived.Attr
import Derived.Laws.Strings
set_option linter.all false
/- The set of equations that runs the calculus. -/
namespace Go.Dev.Wk
open Go Go.Dev

section
variable {n m : Nat} {tm : Nat → T} {bx : Nat → Ob} {fo : List Ob}
theorem ofF_writes_nil {fr : Fr} : fr.writes [] = some fr := rfl
def WrA (ws : List W) : Option Fr → Option Fr
  | some fr => fr.writes ws
  | none => none
theorem ofF_writes_cons {w : W} {ws : List W} : (ofF n m tm bx fo).writes (w :: ws) = WrA ws ((ofF n m tm bx fo).write w) := by
  simp only [Fr.writes, WrA]; cases (ofF n m tm bx fo).write w <;> rfl
theorem wrA_some {ws : List W} {fr : Fr} : WrA ws (some fr) = fr.writes ws := rfl
theorem key_at_loc {h g : Nat} : (Key.loc h g).at = .home h := rfl
theorem key_at_fo {i : Nat} : (Key.fo i).at = .fo i := rfl
theorem key_fits_loc {h g g' : Nat} : (Key.loc h g).fits g' = decide (g' = g) := by
  simp only [Key.fits]; by_cases h : g = g'
  · subst h; simp
  · simp [h, Ne.symm h]
theorem key_fits_fo {i g' : Nat} : (Key.fo i).fits g' = true := rfl
theorem cellsO_v {x : V} : (T.one (.v x)).cellsO = some [.v x] := rfl
theorem cellsO_esl : (T.one .esl).cellsO = some [.esl] := rfl
theorem cellsO_lin {h g ty : Nat} {es : List (List V)} : (T.one (.lin h g ty es)).cellsO = some [.lin h g ty es] := rfl
theorem cellsO_ref {k : Key} {o : Nat} : (T.one (.ref k o)).cellsO = some [.ref k o] := rfl
theorem cellsO_osl {k : Key} {a b c : Nat} : (T.one (.osl k a b c)).cellsO = some [.osl k a b c] := rfl
theorem cellsO_fn {f : Fn} {a b : List C} : (T.one (.fn f a b)).cellsO = some [.fn f a b] := rfl
theorem cellsO_agg {cs : List C} : (T.agg cs).cellsO = some cs := rfl
theorem elems_sl {es : List (List V)} : (C.v (.sl es)).elems = some es := rfl
theorem elems_esl : C.esl.elems = some [] := rfl
theorem elems_lin {h g ty : Nat} {es : List (List V)} : (C.lin h g ty es).elems = some es := rfl
theorem telems_s {s : ByteArray} : (T.one (.v (.s (.string s)))).elems = some (byteCells s) := rfl
theorem telems_sl {es : List (List V)} : (T.one (.v (.sl es))).elems = some es := rfl
theorem telems_esl : (T.one .esl).elems = some [] := rfl
theorem telems_lin {h g ty : Nat} {es : List (List V)} : (T.one (.lin h g ty es)).elems = some es := rfl
theorem int?_i {k : IntKind} {a : Int} : (T.one (.v (.s (.int k a)))).int? = some a := rfl
theorem ttoVs_one {c : C} : (T.one c).toVs = Dev.toVs [c] := rfl
theorem ttoVs_agg {cs : List C} : (T.agg cs).toVs = Dev.toVs cs := rfl
theorem toVs_nil : Dev.toVs [] = some [] := rfl
theorem toVs_v {x : V} {cs : List C} : Dev.toVs (.v x :: cs) = (Dev.toVs cs).map (x :: ·) := by
  simp only [Dev.toVs, C.toV]; cases Dev.toVs cs <;> rfl
theorem toVs_esl {cs : List C} : Dev.toVs (.esl :: cs) = (Dev.toVs cs).map (.sl [] :: ·) := by
  simp only [Dev.toVs, C.toV]; cases Dev.toVs cs <;> rfl
theorem toVs_lin {h g ty : Nat} {es : List (List V)} {cs : List C} : Dev.toVs (.lin h g ty es :: cs) = (Dev.toVs cs).map (.sl es :: ·) := by
  simp only [Dev.toVs, C.toV]; cases Dev.toVs cs <;> rfl
theorem lenLA_osl {k : Key} {a b c : Nat} : lenLA (.one (.osl k a b c)) = some (tI c, []) := rfl
theorem lenLA_sl {es : List (List V)} : lenLA (.one (.v (.sl es))) = some (tI es.length, []) := rfl
theorem lenLA_esl : lenLA (.one .esl) = some (tI 0, []) := rfl
theorem lenLA_lin {h g ty : Nat} {es : List (List V)} : lenLA (.one (.lin h g ty es)) = some (tI es.length, []) := rfl
theorem iaddrA_osl {sz sz' off len : Nat} {k : Key} {n : Int} : iaddrA sz (.one (.osl k sz' off len)) (some n) = if 0 ≤ n ∧ n < len ∧ sz' = sz then some (.one (.ref k (off + n.toNat * sz)), []) else none := rfl
theorem iaddrA_sl {sz : Nat} {es : List (List V)} {n : Int} : iaddrA sz (.one (.v (.sl es))) (some n) = elemA sz n (some es) := rfl
theorem iaddrA_lin {sz h g ty : Nat} {es : List (List V)} {n : Int} : iaddrA sz (.one (.lin h g ty es)) (some n) = elemA sz n (some es) := rfl
theorem elemA_some {sz : Nat} {n : Int} {es : List (List V)} : elemA sz n (some es) = if 0 ≤ n then elemA.elemB sz es[n.toNat]? else none := rfl
theorem elemB_some {sz : Nat} {e : List V} : elemA.elemB sz (some e) = if e.length = sz then some (.one (.v (.pt e)), []) else none := rfl
theorem sliceLA_osl {sz sz' off len : Nat} {k : Key} {l h : Option Int} : sliceLA sz (some l) (some h) (some none) (.one (.osl k sz' off len)) = if 0 ≤ l.getD 0 ∧ l.getD 0 ≤ h.getD len ∧ h.getD len ≤ len ∧ sz' = sz then some (.one (.osl k sz (off + (l.getD 0).toNat * sz) ((h.getD len).toNat - (l.getD 0).toNat)), []) else none := rfl
theorem sliceLA_sl {sz : Nat} {l h : Option Int} {es : List (List V)} : sliceLA sz (some l) (some h) (some none) (.one (.v (.sl es))) = sliceEA sz l h (some es) := rfl
theorem sliceLA_esl {sz : Nat} {l h : Option Int} : sliceLA sz (some l) (some h) (some none) (.one .esl) = sliceEA sz l h (some []) := rfl
theorem sliceLA_lin {sz a g ty : Nat} {l h : Option Int} {es : List (List V)} : sliceLA sz (some l) (some h) (some none) (.one (.lin a g ty es)) = sliceEA sz l h (some es) := rfl
theorem sliceEA_some {sz : Nat} {l h : Option Int} {es : List (List V)} : sliceEA sz l h (some es) = if allSz sz es then (sliceV es l h).map fun r => (.one (.v (.sl r)), []) else none := rfl
theorem optInt_none : optInt none = some none := rfl
theorem optInt_some {t : T} : optInt (some t) = (t.int?).map some := rfl
theorem splice_eq {old new : List C} {off : Nat} : splice old off new = old.take off ++ new ++ old.drop (off + new.length) := rfl
theorem allSz_nil {sz : Nat} : allSz sz [] = true := rfl
theorem allSz_cons {sz : Nat} {e : List V} {es : List (List V)} : allSz sz (e :: es) = (e.length == sz && allSz sz es) := rfl
theorem getAll_nil {fr : Fr} : getAll fr [] = some [] := rfl
def AllA : Option T → Option (List T) → Option (List T)
  | some x, some xs => some (x :: xs)
  | _, _ => none
theorem getAll_cons {fr : Fr} {r : DRes} {rs : List DRes} : getAll fr (r :: rs) = AllA (getRes fr r) (getAll fr rs) := by
  simp only [getAll]; cases getRes fr r <;> cases getAll fr rs <;> rfl
theorem allA_some {x : T} {xs : List T} : AllA (some x) (some xs) = some (x :: xs) := rfl
theorem getRes_t {i : Nat} : getRes (ofF n m tm bx fo) (.t i) = if i < n then some (tm i) else none := ofF_tm_at i
def CellA (sz : Option Nat) (fr : Fr) : T → Option T
  | .one (.ref (.loc h g) off) => match fr.look (.home h) with
    | some o => if o.g = g then loadC sz o.cs off else none
    | none => none
  | _ => none
theorem getRes_cell {i : Nat} {sz : Option Nat} : getRes (ofF n m tm bx fo) (.cell i sz) = if i < n then CellA sz (ofF n m tm bx fo) (tm i) else none := by
  simp only [getRes, ofF_tm_at, CellA]
  by_cases h : i < n
  · simp only [h, if_true]
    cases tm i with
    | one c =>
      cases c with
      | ref k o => cases k <;> rfl
      | _ => rfl
    | _ => rfl
  · simp only [h, if_false]
theorem cellA_ref {sz : Option Nat} {h g off : Nat} : CellA sz (ofF n m tm bx fo) (.one (.ref (.loc h g) off)) = if h < m then if (bx h).g = g then loadC sz (bx h).cs off else none else none := by
  simp only [CellA, ofF_look]
  by_cases hh : h < m
  · simp only [hh, if_true]
  · simp only [hh, if_false]
def FinK (ad : Bool) (r : T) (fo' : List Ob) (fr : Fr) : Option (List T) → Prop
  | some rs => finish ad fr rs = some (r, fo')
  | none => False
theorem fin_nrm_iff {res : List DRes} {ad : Bool} {r : T} {fo' : List Ob} {fr : Fr} : Fin res ad r fo' .nrm fr ↔ FinK ad r fo' fr (getAll fr res) := by
  simp only [Fin, FinK]; cases getAll fr res <;> simp
theorem fin_ret_iff {res : List DRes} {ad : Bool} {r : T} {fo' : List Ob} {fr : Fr} : Fin res ad r fo' .ret fr ↔ FinK ad r fo' fr (getAll fr res) := by
  simp only [Fin, FinK]; cases getAll fr res <;> simp
theorem finK_some {ad : Bool} {r : T} {fo' : List Ob} {fr : Fr} {rs : List T} : FinK ad r fo' fr (some rs) ↔ finish ad fr rs = some (r, fo') := Iff.rfl
theorem finish_false {fr : Fr} {rs : List T} : finish false fr rs = (outTs (outC fr) rs).map fun rs' => (pack rs', couts fr [] fr.fo) := rfl
theorem outTs_nil {f : C → Option C} : outTs f [] = some [] := rfl
theorem outTs_cons {f : C → Option C} {t : T} {ts : List T} : outTs f (t :: ts) = AllA (outT f t) (outTs f ts) := by
  simp only [outTs]; cases outT f t <;> cases outTs f ts <;> rfl
theorem outT_one {f : C → Option C} {c : C} : outT f (.one c) = (f c).map .one := rfl
theorem outT_agg {f : C → Option C} {cs : List C} : outT f (.agg cs) = (outL f cs).map .agg := rfl
theorem outL_nil {f : C → Option C} : outL f [] = some [] := rfl
def LA : Option C → Option (List C) → Option (List C)
  | some x, some xs => some (x :: xs)
  | _, _ => none
theorem outL_cons {f : C → Option C} {c : C} {cs : List C} : outL f (c :: cs) = LA (f c) (outL f cs) := by
  simp only [outL]; cases f c <;> cases outL f cs <;> rfl
theorem lA_some {x : C} {xs : List C} : LA (some x) (some xs) = some (x :: xs) := rfl
theorem outC_v {fr : Fr} {x : V} : outC fr (.v x) = some (.v x) := rfl
theorem outC_esl {fr : Fr} : outC fr .esl = some (.v (.sl [])) := rfl
theorem outC_lin {fr : Fr} {h g ty : Nat} {es : List (List V)} : outC fr (.lin h g ty es) = some (.v (.sl es)) := rfl
theorem outC_fo {fr : Fr} {i off : Nat} : outC fr (.ref (.fo i) off) = some (.ref (.fo i) off) := rfl
theorem outC_ofo {fr : Fr} {i a b c : Nat} : outC fr (.osl (.fo i) a b c) = some (.osl (.fo i) a b c) := rfl
theorem pack_one {t : T} : pack [t] = t := rfl
theorem pack_two {t u : T} {ts : List T} : pack (t :: u :: ts) = .tup (t :: u :: ts) := rfl
theorem pack_nil : pack [] = .tup [] := rfl
theorem couts_nil {fr : Fr} {u : List Nat} : couts fr u [] = [] := rfl
theorem tmOf_nil {i : Nat} : tmOf i [] = fun _ => .one .dead := rfl
theorem tmOf_cons {i : Nat} {a : T} {l : List T} : tmOf i (a :: l) = upf (tmOf (i + 1) l) i a := rfl
theorem enterF_nil {n i : Nat} : enterF n i [] = [] := rfl
theorem enterF_cons {n i : Nat} {o : Ob} {os : List Ob} : enterF n i (o :: os) = ⟨0, o.ty, enterO (2 * n + i) o.cs⟩ :: enterF n (i + 1) os := rfl
end

theorem go_mv (x : Opd) {E : Env} {Q : Ex → Fr → Prop} {ks : List Kt} {bad : List (Nat × Nat)} {os : List DOper} {fs : List Foot} {N M : Nat} {tm : Nat → T} {bx : Nat → Ob} {fo : List Ob} {dst : Option Nat} {ad : Bool} : WR E bad (⟨dst, (.mv x), none, ad⟩ :: os) (ofF N M tm bx fo) fs ks Q ↔ AskK E bad os (ofF N M tm bx fo) fs ks Q dst [] (act E.ext noC N ⟨dst, (.mv x), none, ad⟩ (ofF N M tm bx fo).get) := wr_go rfl
theorem go_pick (c a b : Opd) {E : Env} {Q : Ex → Fr → Prop} {ks : List Kt} {bad : List (Nat × Nat)} {os : List DOper} {fs : List Foot} {N M : Nat} {tm : Nat → T} {bx : Nat → Ob} {fo : List Ob} {dst : Option Nat} {ad : Bool} : WR E bad (⟨dst, (.pick c a b), none, ad⟩ :: os) (ofF N M tm bx fo) fs ks Q ↔ AskK E bad os (ofF N M tm bx fo) fs ks Q dst [] (act E.ext noC N ⟨dst, (.pick c a b), none, ad⟩ (ofF N M tm bx fo).get) := wr_go rfl
theorem go_alloc (ty : Nat) (zs : List C) {E : Env} {Q : Ex → Fr → Prop} {ks : List Kt} {bad : List (Nat × Nat)} {os : List DOper} {fs : List Foot} {N M : Nat} {tm : Nat → T} {bx : Nat → Ob} {fo : List Ob} {dst : Option Nat} {ad : Bool} : WR E bad (⟨dst, (.alloc ty zs), none, ad⟩ :: os) (ofF N M tm bx fo) fs ks Q ↔ AskK E bad os (ofF N M tm bx fo) fs ks Q dst [] (act E.ext noC N ⟨dst, (.alloc ty zs), none, ad⟩ (ofF N M tm bx fo).get) := wr_go rfl
theorem go_box (ty : Nat) (x : Opd) {E : Env} {Q : Ex → Fr → Prop} {ks : List Kt} {bad : List (Nat × Nat)} {os : List DOper} {fs : List Foot} {N M : Nat} {tm : Nat → T} {bx : Nat → Ob} {fo : List Ob} {dst : Option Nat} {ad : Bool} : WR E bad (⟨dst, (.box ty x), none, ad⟩ :: os) (ofF N M tm bx fo) fs ks Q ↔ AskK E bad os (ofF N M tm bx fo) fs ks Q dst [] (act E.ext noC N ⟨dst, (.box ty x), none, ad⟩ (ofF N M tm bx fo).get) := wr_go rfl
theorem go_build (zs : List C) (parts : List (Nat × Nat × Opd)) {E : Env} {Q : Ex → Fr → Prop} {ks : List Kt} {bad : List (Nat × Nat)} {os : List DOper} {fs : List Foot} {N M : Nat} {tm : Nat → T} {bx : Nat → Ob} {fo : List Ob} {dst : Option Nat} {ad : Bool} : WR E bad (⟨dst, (.build zs parts), none, ad⟩ :: os) (ofF N M tm bx fo) fs ks Q ↔ AskK E bad os (ofF N M tm bx fo) fs ks Q dst [] (act E.ext noC N ⟨dst, (.build zs parts), none, ad⟩ (ofF N M tm bx fo).get) := wr_go rfl
theorem go_bsl (ty sz : Nat) (own : Bool) (parts : List Opd) {E : Env} {Q : Ex → Fr → Prop} {ks : List Kt} {bad : List (Nat × Nat)} {os : List DOper} {fs : List Foot} {N M : Nat} {tm : Nat → T} {bx : Nat → Ob} {fo : List Ob} {dst : Option Nat} {ad : Bool} : WR E bad (⟨dst, (.bsl ty sz own parts), none, ad⟩ :: os) (ofF N M tm bx fo) fs ks Q ↔ AskK E bad os (ofF N M tm bx fo) fs ks Q dst [] (act E.ext noC N ⟨dst, (.bsl ty sz own parts), none, ad⟩ (ofF N M tm bx fo).get) := wr_go rfl
theorem go_load (sz : Option Nat) (x : Opd) {E : Env} {Q : Ex → Fr → Prop} {ks : List Kt} {bad : List (Nat × Nat)} {os : List DOper} {fs : List Foot} {N M : Nat} {tm : Nat → T} {bx : Nat → Ob} {fo : List Ob} {dst : Option Nat} {ad : Bool} : WR E bad (⟨dst, (.load sz x), none, ad⟩ :: os) (ofF N M tm bx fo) fs ks Q ↔ AskK E bad os (ofF N M tm bx fo) fs ks Q dst [] (act E.ext noC N ⟨dst, (.load sz x), none, ad⟩ (ofF N M tm bx fo).get) := wr_go rfl
theorem go_store (sz : Nat) (x y : Opd) {E : Env} {Q : Ex → Fr → Prop} {ks : List Kt} {bad : List (Nat × Nat)} {os : List DOper} {fs : List Foot} {N M : Nat} {tm : Nat → T} {bx : Nat → Ob} {fo : List Ob} {dst : Option Nat} {ad : Bool} : WR E bad (⟨dst, (.store sz x y), none, ad⟩ :: os) (ofF N M tm bx fo) fs ks Q ↔ AskK E bad os (ofF N M tm bx fo) fs ks Q dst [] (act E.ext noC N ⟨dst, (.store sz x y), none, ad⟩ (ofF N M tm bx fo).get) := wr_go rfl
theorem go_nilck (x : Opd) {E : Env} {Q : Ex → Fr → Prop} {ks : List Kt} {bad : List (Nat × Nat)} {os : List DOper} {fs : List Foot} {N M : Nat} {tm : Nat → T} {bx : Nat → Ob} {fo : List Ob} {dst : Option Nat} {ad : Bool} : WR E bad (⟨dst, (.nilck x), none, ad⟩ :: os) (ofF N M tm bx fo) fs ks Q ↔ AskK E bad os (ofF N M tm bx fo) fs ks Q dst [] (act E.ext noC N ⟨dst, (.nilck x), none, ad⟩ (ofF N M tm bx fo).get) := wr_go rfl
theorem go_bin (op : BinOp) (x y : Opd) {E : Env} {Q : Ex → Fr → Prop} {ks : List Kt} {bad : List (Nat × Nat)} {os : List DOper} {fs : List Foot} {N M : Nat} {tm : Nat → T} {bx : Nat → Ob} {fo : List Ob} {dst : Option Nat} {ad : Bool} : WR E bad (⟨dst, (.bin op x y), none, ad⟩ :: os) (ofF N M tm bx fo) fs ks Q ↔ AskK E bad os (ofF N M tm bx fo) fs ks Q dst [] (act E.ext noC N ⟨dst, (.bin op x y), none, ad⟩ (ofF N M tm bx fo).get) := wr_go rfl
theorem go_peq (neq : Bool) (x y : Opd) {E : Env} {Q : Ex → Fr → Prop} {ks : List Kt} {bad : List (Nat × Nat)} {os : List DOper} {fs : List Foot} {N M : Nat} {tm : Nat → T} {bx : Nat → Ob} {fo : List Ob} {dst : Option Nat} {ad : Bool} : WR E bad (⟨dst, (.peq neq x y), none, ad⟩ :: os) (ofF N M tm bx fo) fs ks Q ↔ AskK E bad os (ofF N M tm bx fo) fs ks Q dst [] (act E.ext noC N ⟨dst, (.peq neq x y), none, ad⟩ (ofF N M tm bx fo).get) := wr_go rfl
theorem go_beq (neq : Bool) (x y : Opd) {E : Env} {Q : Ex → Fr → Prop} {ks : List Kt} {bad : List (Nat × Nat)} {os : List DOper} {fs : List Foot} {N M : Nat} {tm : Nat → T} {bx : Nat → Ob} {fo : List Ob} {dst : Option Nat} {ad : Bool} : WR E bad (⟨dst, (.beq neq x y), none, ad⟩ :: os) (ofF N M tm bx fo) fs ks Q ↔ AskK E bad os (ofF N M tm bx fo) fs ks Q dst [] (act E.ext noC N ⟨dst, (.beq neq x y), none, ad⟩ (ofF N M tm bx fo).get) := wr_go rfl
theorem go_pub (sz : Nat) (x : Opd) {E : Env} {Q : Ex → Fr → Prop} {ks : List Kt} {bad : List (Nat × Nat)} {os : List DOper} {fs : List Foot} {N M : Nat} {tm : Nat → T} {bx : Nat → Ob} {fo : List Ob} {dst : Option Nat} {ad : Bool} : WR E bad (⟨dst, (.pub sz x), none, ad⟩ :: os) (ofF N M tm bx fo) fs ks Q ↔ AskK E bad os (ofF N M tm bx fo) fs ks Q dst [] (act E.ext noC N ⟨dst, (.pub sz x), none, ad⟩ (ofF N M tm bx fo).get) := wr_go rfl
theorem go_un (op : UnOp) (x : Opd) {E : Env} {Q : Ex → Fr → Prop} {ks : List Kt} {bad : List (Nat × Nat)} {os : List DOper} {fs : List Foot} {N M : Nat} {tm : Nat → T} {bx : Nat → Ob} {fo : List Ob} {dst : Option Nat} {ad : Bool} : WR E bad (⟨dst, (.un op x), none, ad⟩ :: os) (ofF N M tm bx fo) fs ks Q ↔ AskK E bad os (ofF N M tm bx fo) fs ks Q dst [] (act E.ext noC N ⟨dst, (.un op x), none, ad⟩ (ofF N M tm bx fo).get) := wr_go rfl
theorem go_conv (k : Cv) (x : Opd) {E : Env} {Q : Ex → Fr → Prop} {ks : List Kt} {bad : List (Nat × Nat)} {os : List DOper} {fs : List Foot} {N M : Nat} {tm : Nat → T} {bx : Nat → Ob} {fo : List Ob} {dst : Option Nat} {ad : Bool} : WR E bad (⟨dst, (.conv k x), none, ad⟩ :: os) (ofF N M tm bx fo) fs ks Q ↔ AskK E bad os (ofF N M tm bx fo) fs ks Q dst [] (act E.ext noC N ⟨dst, (.conv k x), none, ad⟩ (ofF N M tm bx fo).get) := wr_go rfl
theorem go_mkfn (fn : Fn) (first caps : List Opd) {E : Env} {Q : Ex → Fr → Prop} {ks : List Kt} {bad : List (Nat × Nat)} {os : List DOper} {fs : List Foot} {N M : Nat} {tm : Nat → T} {bx : Nat → Ob} {fo : List Ob} {dst : Option Nat} {ad : Bool} : WR E bad (⟨dst, (.mkfn fn first caps), none, ad⟩ :: os) (ofF N M tm bx fo) fs ks Q ↔ AskK E bad os (ofF N M tm bx fo) fs ks Q dst [] (act E.ext noC N ⟨dst, (.mkfn fn first caps), none, ad⟩ (ofF N M tm bx fo).get) := wr_go rfl
theorem go_slice (str : Bool) (sz : Nat) (x : Opd) (lo hi mx : Option Opd) {E : Env} {Q : Ex → Fr → Prop} {ks : List Kt} {bad : List (Nat × Nat)} {os : List DOper} {fs : List Foot} {N M : Nat} {tm : Nat → T} {bx : Nat → Ob} {fo : List Ob} {dst : Option Nat} {ad : Bool} : WR E bad (⟨dst, (.slice str sz x lo hi mx), none, ad⟩ :: os) (ofF N M tm bx fo) fs ks Q ↔ AskK E bad os (ofF N M tm bx fo) fs ks Q dst [] (act E.ext noC N ⟨dst, (.slice str sz x lo hi mx), none, ad⟩ (ofF N M tm bx fo).get) := wr_go rfl
theorem go_faddr (off : Nat) (x : Opd) {E : Env} {Q : Ex → Fr → Prop} {ks : List Kt} {bad : List (Nat × Nat)} {os : List DOper} {fs : List Foot} {N M : Nat} {tm : Nat → T} {bx : Nat → Ob} {fo : List Ob} {dst : Option Nat} {ad : Bool} : WR E bad (⟨dst, (.faddr off x), none, ad⟩ :: os) (ofF N M tm bx fo) fs ks Q ↔ AskK E bad os (ofF N M tm bx fo) fs ks Q dst [] (act E.ext noC N ⟨dst, (.faddr off x), none, ad⟩ (ofF N M tm bx fo).get) := wr_go rfl
theorem go_iaddr (sz : Nat) (x i : Opd) {E : Env} {Q : Ex → Fr → Prop} {ks : List Kt} {bad : List (Nat × Nat)} {os : List DOper} {fs : List Foot} {N M : Nat} {tm : Nat → T} {bx : Nat → Ob} {fo : List Ob} {dst : Option Nat} {ad : Bool} : WR E bad (⟨dst, (.iaddr sz x i), none, ad⟩ :: os) (ofF N M tm bx fo) fs ks Q ↔ AskK E bad os (ofF N M tm bx fo) fs ks Q dst [] (act E.ext noC N ⟨dst, (.iaddr sz x i), none, ad⟩ (ofF N M tm bx fo).get) := wr_go rfl
theorem go_index (x i : Opd) {E : Env} {Q : Ex → Fr → Prop} {ks : List Kt} {bad : List (Nat × Nat)} {os : List DOper} {fs : List Foot} {N M : Nat} {tm : Nat → T} {bx : Nat → Ob} {fo : List Ob} {dst : Option Nat} {ad : Bool} : WR E bad (⟨dst, (.index x i), none, ad⟩ :: os) (ofF N M tm bx fo) fs ks Q ↔ AskK E bad os (ofF N M tm bx fo) fs ks Q dst [] (act E.ext noC N ⟨dst, (.index x i), none, ad⟩ (ofF N M tm bx fo).get) := wr_go rfl
theorem go_extract (x : Opd) (i : Nat) {E : Env} {Q : Ex → Fr → Prop} {ks : List Kt} {bad : List (Nat × Nat)} {os : List DOper} {fs : List Foot} {N M : Nat} {tm : Nat → T} {bx : Nat → Ob} {fo : List Ob} {dst : Option Nat} {ad : Bool} : WR E bad (⟨dst, (.extract x i), none, ad⟩ :: os) (ofF N M tm bx fo) fs ks Q ↔ AskK E bad os (ofF N M tm bx fo) fs ks Q dst [] (act E.ext noC N ⟨dst, (.extract x i), none, ad⟩ (ofF N M tm bx fo).get) := wr_go rfl
theorem go_len (str : Bool) (x : Opd) {E : Env} {Q : Ex → Fr → Prop} {ks : List Kt} {bad : List (Nat × Nat)} {os : List DOper} {fs : List Foot} {N M : Nat} {tm : Nat → T} {bx : Nat → Ob} {fo : List Ob} {dst : Option Nat} {ad : Bool} : WR E bad (⟨dst, (.len str x), none, ad⟩ :: os) (ofF N M tm bx fo) fs ks Q ↔ AskK E bad os (ofF N M tm bx fo) fs ks Q dst [] (act E.ext noC N ⟨dst, (.len str x), none, ad⟩ (ofF N M tm bx fo).get) := wr_go rfl
theorem go_append (ty sz bytes : Nat) (own : Bool) (x y : Opd) {E : Env} {Q : Ex → Fr → Prop} {ks : List Kt} {bad : List (Nat × Nat)} {os : List DOper} {fs : List Foot} {N M : Nat} {tm : Nat → T} {bx : Nat → Ob} {fo : List Ob} {dst : Option Nat} {ad : Bool} : WR E bad (⟨dst, (.append ty sz bytes own x y), none, ad⟩ :: os) (ofF N M tm bx fo) fs ks Q ↔ AskK E bad os (ofF N M tm bx fo) fs ks Q dst [] (act E.ext noC N ⟨dst, (.append ty sz bytes own x y), none, ad⟩ (ofF N M tm bx fo).get) := wr_go rfl
theorem go_clear (zs : List C) (x : Opd) {E : Env} {Q : Ex → Fr → Prop} {ks : List Kt} {bad : List (Nat × Nat)} {os : List DOper} {fs : List Foot} {N M : Nat} {tm : Nat → T} {bx : Nat → Ob} {fo : List Ob} {dst : Option Nat} {ad : Bool} : WR E bad (⟨dst, (.clear zs x), none, ad⟩ :: os) (ofF N M tm bx fo) fs ks Q ↔ AskK E bad os (ofF N M tm bx fo) fs ks Q dst [] (act E.ext noC N ⟨dst, (.clear zs x), none, ad⟩ (ofF N M tm bx fo).get) := wr_go rfl
theorem go_pureBi (b : Builtin) (args : List Opd) {E : Env} {Q : Ex → Fr → Prop} {ks : List Kt} {bad : List (Nat × Nat)} {os : List DOper} {fs : List Foot} {N M : Nat} {tm : Nat → T} {bx : Nat → Ob} {fo : List Ob} {dst : Option Nat} {ad : Bool} : WR E bad (⟨dst, (.pureBi b args), none, ad⟩ :: os) (ofF N M tm bx fo) fs ks Q ↔ AskK E bad os (ofF N M tm bx fo) fs ks Q dst [] (act E.ext noC N ⟨dst, (.pureBi b args), none, ad⟩ (ofF N M tm bx fo).get) := wr_go rfl
theorem go_pcast (al : List (Nat × Nat × Nat)) (x : Opd) {E : Env} {Q : Ex → Fr → Prop} {ks : List Kt} {bad : List (Nat × Nat)} {os : List DOper} {fs : List Foot} {N M : Nat} {tm : Nat → T} {bx : Nat → Ob} {fo : List Ob} {dst : Option Nat} {ad : Bool} : WR E bad (⟨dst, (.pcast al x), none, ad⟩ :: os) (ofF N M tm bx fo) fs ks Q ↔ AskK E bad os (ofF N M tm bx fo) fs ks Q dst [] (act E.ext noC N ⟨dst, (.pcast al x), none, ad⟩ (ofF N M tm bx fo).get) := wr_go rfl
theorem go_sdata (x : Opd) {E : Env} {Q : Ex → Fr → Prop} {ks : List Kt} {bad : List (Nat × Nat)} {os : List DOper} {fs : List Foot} {N M : Nat} {tm : Nat → T} {bx : Nat → Ob} {fo : List Ob} {dst : Option Nat} {ad : Bool} : WR E bad (⟨dst, (.sdata x), none, ad⟩ :: os) (ofF N M tm bx fo) fs ks Q ↔ AskK E bad os (ofF N M tm bx fo) fs ks Q dst [] (act E.ext noC N ⟨dst, (.sdata x), none, ad⟩ (ofF N M tm bx fo).get) := wr_go rfl
theorem go_ustr (ty : Nat) (x y : Opd) {E : Env} {Q : Ex → Fr → Prop} {ks : List Kt} {bad : List (Nat × Nat)} {os : List DOper} {fs : List Foot} {N M : Nat} {tm : Nat → T} {bx : Nat → Ob} {fo : List Ob} {dst : Option Nat} {ad : Bool} : WR E bad (⟨dst, (.ustr ty x y), none, ad⟩ :: os) (ofF N M tm bx fo) fs ks Q ↔ AskK E bad os (ofF N M tm bx fo) fs ks Q dst [] (act E.ext noC N ⟨dst, (.ustr ty x y), none, ad⟩ (ofF N M tm bx fo).get) := wr_go rfl

attribute [go_sem] wp_seq wp_block wp_skip wp_label wp_exit wp_goto wp_ret wp_cond condK_t condK_f wp_sc wp_scope wp_region wr_nil0 wr_forget
  gone_nil gone_seq gone_seq_exit gone_seq_goto gone_seq_ret gone_block gone_block_exit gone_block_goto gone_block_ret gone_loop gone_loop_exit gone_loop_goto gone_loop_ret gone_sc gone_sc_exit gone_sc_ret
  wr_guard guardK_tt guardK_ff guardK_tf guardK_ft guardK_tup wrK_some askK_done askK_write lookK_some askK_one lookK2_some askK_two
  act_mv act_pick pickA_t pickA_f act_alloc act_box boxA_some act_build buildA_some partsC_nil partsC_cons partA_some fillC_nil fillC_cons
  act_bsl bslA_false bslOut_cons bslOut_nil bslA_true rowsV_nil rowsV_cons rowA_some act_load loadA_pt loadA_ref loadC_none loadC_some act_store storeA_ref act_nilck nilckA_pt nilckA_ref
  act_bin act_un act_conv act_pureBi act_beq beqA_eq act_peq act_mkfn mkfnA_some act_slices sliceSA_eq act_slicel act_faddr faddrA_pt faddrA_ref act_iaddr act_index indexA_eq indexB_some
  act_extract extractA_tup act_lens lenSA_eq act_lenl act_append appA_some appB_esl appB_lin appB_osl act_clear clearA_osl act_pub pubA_osl act_sdata sdataA_lin act_ustr ustrA_sd act_pcast pcastA_ref
  bin_add bin_sub bin_mul bin_lss bin_leq bin_gtr bin_geq bin_eql bin_neq un_not
  ofF_n ofF_fo ofF_get ofF_getc ofF_look ofF_lookfo ofF_put ofF_put0 ofF_setb ofF_cells ofF_cellsfo upf_at
  ofF_writes_nil ofF_writes_cons wrA_some key_at_loc key_at_fo key_fits_loc key_fits_fo cellsO_v cellsO_esl cellsO_lin cellsO_ref cellsO_osl cellsO_fn cellsO_agg
  elems_sl elems_esl elems_lin telems_s telems_sl telems_esl telems_lin int?_i ttoVs_one ttoVs_agg toVs_nil toVs_v toVs_esl toVs_lin
  lenLA_osl lenLA_sl lenLA_esl lenLA_lin iaddrA_osl iaddrA_sl iaddrA_lin elemA_some elemB_some sliceLA_osl sliceLA_sl sliceLA_esl sliceLA_lin sliceEA_some optInt_none optInt_some
  splice_eq allSz_nil allSz_cons getAll_nil getAll_cons allA_some getRes_t getRes_cell cellA_ref fin_nrm_iff fin_ret_iff finK_some finish_false outTs_nil outTs_cons outT_one outT_agg outL_nil outL_cons lA_some
  outC_v outC_esl outC_lin outC_fo outC_ofo pack_one pack_two pack_nil couts_nil tmOf_nil tmOf_cons enterF_nil enterF_cons go_mv go_pick go_alloc go_box go_build go_bsl go_load go_store go_nilck go_bin go_peq go_beq go_pub go_un go_conv go_mkfn go_slice go_faddr go_iaddr go_index go_extract go_len go_append go_clear go_pureBi go_pcast go_sdata go_ustr tI tInt tB tS

attribute [go_sem] List.length_nil List.length_cons List.map_nil List.map_cons List.nil_append List.cons_append List.append_nil List.drop_zero List.drop_succ_cons List.take_succ_cons List.take_zero List.drop_nil List.take_nil
  List.getElem?_cons_zero List.getElem?_cons_succ List.getElem?_nil Option.map_some Option.map_none Option.getD_some Option.getD_none List.flatten_nil List.flatten_cons List.isEmpty_nil List.isEmpty_cons
  Bool.not_true Bool.not_false Bool.and_true Bool.true_and Bool.false_and Bool.and_false Bool.or_true Bool.true_or Bool.or_false Bool.false_or decide_true decide_false Int.toNat_zero Int.toNat_natCast true_and and_true and_self beq_self_eq_true

end Go.Dev.Wk

/- The calculus: calls. -/
namespace Go.Dev.Wk
open Go Go.Dev

variable {E : Env} {Q : Ex → Fr → Prop} {ks : List Kt} {fr : Fr} {bad : List (Nat × Nat)} {os : List DOper} {fs : List Foot}

/-- A call whose operands are read. -/
def CallC (E : Env) (bad : List (Nat × Nat)) (os : List DOper) (fr : Fr) (fs : List Foot) (ks : List Kt) (Q : Ex → Fr → Prop) (dst : Option Nat) (ad : Bool) (f : T) (args : List T) : Prop :=
  WR E bad (⟨dst, .call (.c f) (args.map .c), none, ad⟩ :: os) fr fs ks Q

theorem map_get_c {args : List T} : (args.map Opd.c).map fr.get = args := by
  induction args with
  | nil => rfl
  | cons a l ih => simp only [List.map_cons, ih]; rfl

theorem go_call {dst : Option Nat} {ad : Bool} {f : Opd} {args : List Opd} : WR E bad (⟨dst, .call f args, none, ad⟩ :: os) fr fs ks Q ↔ CallC E bad os fr fs ks Q dst ad (fr.get f) (args.map fr.get) := by
  have : ∀ call, step E.ext call ⟨dst, .call f args, none, ad⟩ fr = step E.ext call ⟨dst, .call (.c (fr.get f)) ((args.map fr.get).map .c), none, ad⟩ fr := by
    intro call
    simp only [step, wants, act, map_get_c]
    rfl
  simp only [CallC, WR, run, this]

/-- A call where no variable is handed in. -/
theorem call0 {dst : Option Nat} {k : Nat} {args args' : List T} {r : T} (h : Ev E false k args' [] r []) (he : E.ext k = none) (ha : args.map (trT []) = args') (hr : args.flatMap refsT = []) (hb : backT [] r = some r)
    (hw : WR E bad os (putT fr dst r) (fs ++ [([], [])]) ks Q) : CallC E bad os fr fs ks Q dst false (.one (.fn (.func k) [] [])) args := by
  subst ha
  refine wr_call (all := args) rfl he ?_ hr h hb hw
  simp only [List.map_nil, List.nil_append, map_get_c, List.append_nil]

/-- A closure's call where no variable is handed in. -/
theorem call0c {dst : Option Nat} {k : Nat} {args args' : List T} {first caps : List C} {r : T} (h : Ev E false k args' [] r []) (he : E.ext k = none) (ha : (first.map T.one ++ args ++ caps.map T.one).map (trT []) = args') (hr : (first.map T.one ++ args ++ caps.map T.one).flatMap refsT = []) (hb : backT [] r = some r)
    (hw : WR E bad os (putT fr dst r) (fs ++ [([], [])]) ks Q) : CallC E bad os fr fs ks Q dst false (.one (.fn (.func k) first caps)) args := by
  subst ha
  refine wr_call (all := first.map T.one ++ args ++ caps.map T.one) rfl he ?_ hr h hb hw
  simp only [map_get_c]

/-! ### Calls where variables are handed in -/

def BackW (E : Env) (bad : List (Nat × Nat)) (os : List DOper) (fr : Fr) (fs : List Foot) (ks : List Kt) (Q : Ex → Fr → Prop) (dst : Option Nat) (ls : List Loc) : Option (List W) → Option T → Prop
  | some ws, some x => WrK E bad os fs ks Q dst ls ws x (fr.writes ws)
  | _, _ => False
theorem backW_some {dst : Option Nat} {ls : List Loc} {ws : List W} {x : T} : BackW E bad os fr fs ks Q dst ls (some ws) (some x) ↔ WrK E bad os fs ks Q dst ls ws x (fr.writes ws) := Iff.rfl

/-- What is to be shown of a call. -/
def CallE (E : Env) (bad : List (Nat × Nat)) (os : List DOper) (fr : Fr) (fs : List Foot) (ks : List Kt) (Q : Ex → Fr → Prop) (dst : Option Nat) (k : Nat) (args : List T) (fo : List Ob) (keys : List Key) (obs : List Ob) (ls : List Loc) : Prop :=
  ∃ r fo', Ev E false k args fo r fo' ∧ fo'.length = keys.length ∧ BackW E bad os fr fs ks Q dst ls (handBack fr.n keys keys obs fo') (backT keys r)

theorem callE {dst : Option Nat} {k : Nat} {args : List T} {fo fo' : List Ob} {keys : List Key} {obs : List Ob} {ls : List Loc} {r : T} (h : Ev E false k args fo r fo') (hl : fo'.length = keys.length)
    (hb : BackW E bad os fr fs ks Q dst ls (handBack fr.n keys keys obs fo') (backT keys r)) : CallE E bad os fr fs ks Q dst k args fo keys obs ls := ⟨r, fo', h, hl, hb⟩

def HandK (E : Env) (bad : List (Nat × Nat)) (os : List DOper) (fr : Fr) (fs : List Foot) (ks : List Kt) (Q : Ex → Fr → Prop) (dst : Option Nat) (k : Nat) (all : List T) (keys : List Key) (obs : List Ob) (ls : List Loc) : Option (List Ob) → Prop
  | some fo => CallE E bad os fr fs ks Q dst k (all.map (trT keys)) fo keys obs ls
  | none => False
theorem handK_some {dst : Option Nat} {k : Nat} {all : List T} {keys : List Key} {obs fo : List Ob} {ls : List Loc} : HandK E bad os fr fs ks Q dst k all keys obs ls (some fo) ↔ CallE E bad os fr fs ks Q dst k (all.map (trT keys)) fo keys obs ls := Iff.rfl

def GatherK (E : Env) (bad : List (Nat × Nat)) (os : List DOper) (fr : Fr) (fs : List Foot) (ks : List Kt) (Q : Ex → Fr → Prop) (dst : Option Nat) (k : Nat) (all : List T) : Option (List Key × List Ob × List Loc) → Prop
  | some (keys, obs, ls) => HandK E bad os fr fs ks Q dst k all keys obs ls (handIn fr.n keys keys obs)
  | none => False
theorem gatherK_some {dst : Option Nat} {k : Nat} {all : List T} {keys : List Key} {obs : List Ob} {ls : List Loc} : GatherK E bad os fr fs ks Q dst k all (some (keys, obs, ls)) ↔ HandK E bad os fr fs ks Q dst k all keys obs ls (handIn fr.n keys keys obs) := Iff.rfl

def KeysK (E : Env) (bad : List (Nat × Nat)) (os : List DOper) (fr : Fr) (fs : List Foot) (ks : List Kt) (Q : Ex → Fr → Prop) (dst : Option Nat) (k : Nat) (all : List T) : List Key → Prop
  | [] => False
  | q :: qs => GatherK E bad os fr fs ks Q dst k all (gatherC fr 4 (q :: qs))
theorem keysK_cons {dst : Option Nat} {k : Nat} {all : List T} {q : Key} {qs : List Key} : KeysK E bad os fr fs ks Q dst k all (q :: qs) ↔ GatherK E bad os fr fs ks Q dst k all (gatherC fr 4 (q :: qs)) := Iff.rfl

theorem callK {dst : Option Nat} {k : Nat} {args : List T} {first caps : List C} (he : E.ext k = none)
    (h : KeysK E bad os fr fs ks Q dst k (first.map T.one ++ args ++ caps.map T.one) (dedup ((first.map T.one ++ args ++ caps.map T.one).flatMap refsT))) : CallC E bad os fr fs ks Q dst false (.one (.fn (.func k) first caps)) args := by
  generalize hall : first.map T.one ++ args ++ caps.map T.one = all at h
  cases hd : dedup (all.flatMap refsT) with
  | nil => rw [hd] at h; exact h.elim
  | cons q qs =>
    rw [hd, keysK_cons] at h
    cases hg : gatherC fr 4 (q :: qs) with
    | none => rw [hg] at h; exact h.elim
    | some p =>
      obtain ⟨keys, obs, ls⟩ := p
      rw [hg, gatherK_some] at h
      cases hh : handIn fr.n keys keys obs with
      | none => rw [hh] at h; exact h.elim
      | some fo =>
        rw [hh, handK_some] at h
        obtain ⟨r, fo', h1, h2, h3⟩ := h
        cases hb : handBack fr.n keys keys obs fo' with
        | none => rw [hb] at h3; exact h3.elim
        | some ws =>
          cases hx : backT keys r with
          | none => rw [hb, hx] at h3; exact h3.elim
          | some x =>
            rw [hb, hx, backW_some] at h3
            cases hw : fr.writes ws with
            | none => rw [hw] at h3; exact h3.elim
            | some fr' =>
              rw [hw, wrK_some] at h3
              refine wr_callk (all := all) (keys := keys) (obs := obs) (ls := ls) (ws := ws) (fr' := fr') rfl he ?_ (by rw [hd]; rfl) (by rw [hd]; exact hg) hh h1 hb h2 hx hw h3
              rw [map_get_c, hall]

/-! ### Calls whose new list is taken over -/

def BackA (E : Env) (bad : List (Nat × Nat)) (os : List DOper) (fr : Fr) (fs : List Foot) (ks : List Kt) (Q : Ex → Fr → Prop) (d : Nat) (ls : List Loc) (a o : Ob) : Option (List W) → Option T → Option (List V) → Prop
  | some ws, some x, some xs => WrK E bad os fs ks Q (some d) (.home d :: ls) (ws ++ [.setb d ⟨a.g + 1, o.ty, xs.map .v⟩]) x (fr.writes (ws ++ [.setb d ⟨a.g + 1, o.ty, xs.map .v⟩]))
  | _, _, _ => False

/-- A call without variables whose new list is taken over. -/
theorem callA0 {d k : Nat} {args args' : List T} {r x : T} {o : Ob} {xs : List V} {n m : Nat} {tm : Nat → T} {bx : Nat → Ob} {fo : List Ob}
    (h : Ev E true k args' [] r [o]) (he : E.ext k = none) (ha : args.map (trT []) = args') (hr : args.flatMap refsT = []) (hd : d < n) (hnm : d < m) (hxs : toVs o.cs = some xs)
    (hb : backT [.loc d ((bx d).g + 1)] r = some x)
    (hw : WR E bad os (ofF n m (upf tm d x) (upf bx d ⟨(bx d).g + 1, o.ty, xs.map .v⟩) fo) (fs ++ [([.home d], [.setb d ⟨(bx d).g + 1, o.ty, xs.map .v⟩])]) ks Q) : CallC E bad os (ofF n m tm bx fo) fs ks Q (some d) true (.one (.fn (.func k) [] [])) args := by
  subst ha
  refine wr_calla (all := args) (keys := []) (obs := []) (ls := []) (ws := []) (fo := []) (fo' := [o]) (a := bx d) (o := o) (xs := xs) (fr' := ofF n m tm (upf bx d ⟨(bx d).g + 1, o.ty, xs.map .v⟩) fo) rfl he ?_ ?_ ?_ rfl h rfl rfl rfl hxs hd rfl hb ?_ (by rw [ofF_put]; exact hw)
  · simp only [List.map_nil, List.nil_append, map_get_c, List.append_nil]
  · rw [ofF_look, if_pos hnm]
  · rw [hr]; rfl
  · rw [List.nil_append, ofF_writes_cons, ofF_setb, if_pos hnm]; rfl

/-! ### Equations -/

theorem dedup_nil : dedup [] = [] := rfl
theorem dedup_cons {k : Key} {l : List Key} : dedup (k :: l) = if k ∈ dedup l then dedup l else k :: dedup l := rfl
theorem refsT_one {c : C} : refsT (.one c) = refsC c := rfl
theorem refsT_agg {cs : List C} : refsT (.agg cs) = refsC.refsL cs := rfl
theorem refsC_v {x : V} : refsC (.v x) = [] := rfl
theorem refsC_esl : refsC .esl = [] := rfl
theorem refsC_lin {h g ty : Nat} {es : List (List V)} : refsC (.lin h g ty es) = [] := rfl
theorem refsC_osl {k : Key} {a b c : Nat} : refsC (.osl k a b c) = [k] := rfl
theorem refsC_ref {k : Key} {o : Nat} : refsC (.ref k o) = [k] := rfl
theorem refsC_fn {f : Fn} {a b : List C} : refsC (.fn f a b) = refsC.refsL a ++ refsC.refsL b := by simp only [refsC]
theorem refsC_own {ty : Nat} {es : List (List V)} : refsC (.own ty es) = [] := rfl
theorem refsC_dead : refsC .dead = [] := rfl
theorem refsL_nil : refsC.refsL [] = [] := rfl
theorem refsL_cons {c : C} {cs : List C} : refsC.refsL (c :: cs) = refsC c ++ refsC.refsL cs := rfl
theorem trT_one {ks : List Key} {c : C} : trT ks (.one c) = .one (trC ks c) := rfl
theorem trT_agg {ks : List Key} {cs : List C} : trT ks (.agg cs) = .agg (trC.trL ks cs) := rfl
theorem trC_v {ks : List Key} {x : V} : trC ks (.v x) = .v x := by simp only [trC]
theorem trC_esl {ks : List Key} : trC ks .esl = .v (.sl []) := by simp only [trC]
theorem trC_lin {ks : List Key} {h g ty : Nat} {es : List (List V)} : trC ks (.lin h g ty es) = .v (.sl es) := by simp only [trC]
def trK (f : Nat → C) : Option Nat → C
  | some i => f i
  | none => .dead
theorem trK_some {f : Nat → C} {i : Nat} : trK f (some i) = f i := rfl
theorem trC_osl {ks : List Key} {k : Key} {a b c : Nat} : trC ks (.osl k a b c) = trK (fun i => .osl (.fo i) a b c) (ks.idxOf? k) := by
  simp only [trC]; cases ks.idxOf? k <;> rfl
theorem trC_ref {ks : List Key} {k : Key} {o : Nat} : trC ks (.ref k o) = trK (fun i => .ref (.fo i) o) (ks.idxOf? k) := by
  simp only [trC]; cases ks.idxOf? k <;> rfl
theorem trC_fn {ks : List Key} {f : Fn} {a b : List C} : trC ks (.fn f a b) = .fn f (trC.trL ks a) (trC.trL ks b) := by simp only [trC]
theorem trL_nil {ks : List Key} : trC.trL ks [] = [] := by simp only [trC.trL]
theorem trL_cons {ks : List Key} {c : C} {cs : List C} : trC.trL ks (c :: cs) = trC ks c :: trC.trL ks cs := by simp only [trC.trL]
theorem idx_cons {x k : Key} {l : List Key} : (k :: l).idxOf? x = if k = x then some 0 else (l.idxOf? x).map (· + 1) := by
  simp only [List.idxOf?, List.findIdx?_cons]
  by_cases h : k = x
  · subst h; simp
  · simp [h]
theorem gatherC_succ {r : Nat} {ks : List Key} : gatherC fr (r + 1) ks = match fr.looks (keyLocs fr.n ks) with
    | none => none
    | some obs => if dedup (ks ++ obsKeys obs) = ks then some (ks, obs, keyLocs fr.n ks) else match gatherC fr r (dedup (ks ++ obsKeys obs)) with
        | some (k2, o2, l2) => some (k2, o2, keyLocs fr.n ks ++ l2)
        | none => none := rfl
def gathB (fr : Fr) (r : Nat) (ks : List Key) : Option (List Ob) → Option (List Key × List Ob × List Loc)
  | none => none
  | some obs => if dedup (ks ++ obsKeys obs) = ks then some (ks, obs, keyLocs fr.n ks) else gathC (keyLocs fr.n ks) (gatherC fr r (dedup (ks ++ obsKeys obs)))
where gathC (l : List Loc) : Option (List Key × List Ob × List Loc) → Option (List Key × List Ob × List Loc)
  | some (k2, o2, l2) => some (k2, o2, l ++ l2)
  | none => none
theorem gatherC_4 {ks : List Key} : gatherC fr 4 ks = gathB fr 3 ks (fr.looks (keyLocs fr.n ks)) := by
  rw [gatherC_succ]; cases fr.looks (keyLocs fr.n ks) <;> rfl
theorem gatherC_3 {ks : List Key} : gatherC fr 3 ks = gathB fr 2 ks (fr.looks (keyLocs fr.n ks)) := by
  rw [gatherC_succ]; cases fr.looks (keyLocs fr.n ks) <;> rfl
theorem gatherC_2 {ks : List Key} : gatherC fr 2 ks = gathB fr 1 ks (fr.looks (keyLocs fr.n ks)) := by
  rw [gatherC_succ]; cases fr.looks (keyLocs fr.n ks) <;> rfl
theorem gathB_some {r : Nat} {ks : List Key} {obs : List Ob} : gathB fr r ks (some obs) = if dedup (ks ++ obsKeys obs) = ks then some (ks, obs, keyLocs fr.n ks) else gathB.gathC (keyLocs fr.n ks) (gatherC fr r (dedup (ks ++ obsKeys obs))) := rfl
theorem gathC_some {l l2 : List Loc} {k2 : List Key} {o2 : List Ob} : gathB.gathC l (some (k2, o2, l2)) = some (k2, o2, l ++ l2) := rfl
theorem looks_nil : fr.looks [] = some [] := rfl
def LooksA : Option Ob → Option (List Ob) → Option (List Ob)
  | some x, some xs => some (x :: xs)
  | _, _ => none
theorem looks_cons {l : Loc} {ls : List Loc} : fr.looks (l :: ls) = LooksA (fr.look l) (fr.looks ls) := by
  simp only [Fr.looks]; cases fr.look l <;> cases fr.looks ls <;> rfl
theorem looksA_some {x : Ob} {xs : List Ob} : LooksA (some x) (some xs) = some (x :: xs) := rfl
theorem keyLocs_nil {n : Nat} : keyLocs n [] = [] := rfl
theorem keyLocs_cons {n : Nat} {k : Key} {ks : List Key} : keyLocs n (k :: ks) = k.at :: .home (tokH n k.at) :: keyLocs n ks := rfl
theorem tokH_home {n h : Nat} : tokH n (.home h) = n + h := rfl
theorem tokH_fo {n i : Nat} : tokH n (.fo i) = 2 * n + i := rfl
theorem obsKeys_nil : obsKeys [] = [] := rfl
theorem obsKeys_cons {o t : Ob} {obs : List Ob} : obsKeys (o :: t :: obs) = refsC.refsL o.cs ++ obsKeys obs := rfl
theorem handIn_nil {n : Nat} {all : List Key} : handIn n all [] [] = some [] := rfl
theorem handIn_cons {n : Nat} {all : List Key} {k : Key} {ks : List Key} {o t : Ob} {obs : List Ob} : handIn n all (k :: ks) (o :: t :: obs) = if k.fits o.g && k.low n then (handIn n all ks obs).map fun r => ⟨0, o.ty, cin all (tokH n k.at) t.g true o.cs⟩ :: r else none := rfl
theorem low_loc {n h g : Nat} : (Key.loc h g).low n = decide (h < n) := rfl
theorem low_fo {n i : Nat} : (Key.fo i).low n = true := rfl
theorem cin_nil {ks : List Key} {h g : Nat} {b : Bool} : cin ks h g b [] = [] := by simp only [cin]
theorem cin_esl {ks : List Key} {h g : Nat} {b : Bool} {cs : List C} : cin ks h g b (.esl :: cs) = .esl :: cin ks h g b cs := by simp only [cin]
theorem cin_lin {ks : List Key} {h g h' g' ty : Nat} {es : List (List V)} {cs : List C} : cin ks h g true (.lin h' g' ty es :: cs) = if h' = h ∧ g' = g then .own ty es :: cin ks h g false cs else .v (.sl es) :: cin ks h g true cs := by simp only [cin]
theorem cin_linf {ks : List Key} {h g h' g' ty : Nat} {es : List (List V)} {cs : List C} : cin ks h g false (.lin h' g' ty es :: cs) = .v (.sl es) :: cin ks h g false cs := by simp only [cin, trC]
theorem cin_v {ks : List Key} {h g : Nat} {b : Bool} {x : V} {cs : List C} : cin ks h g b (.v x :: cs) = .v x :: cin ks h g b cs := by cases b <;> simp only [cin, trC]
theorem cin_ref {ks : List Key} {h g o : Nat} {b : Bool} {k : Key} {cs : List C} : cin ks h g b (.ref k o :: cs) = trC ks (.ref k o) :: cin ks h g b cs := by cases b <;> simp only [cin]
theorem cin_osl {ks : List Key} {h g o a l : Nat} {b : Bool} {k : Key} {cs : List C} : cin ks h g b (.osl k o a l :: cs) = trC ks (.osl k o a l) :: cin ks h g b cs := by cases b <;> simp only [cin]
theorem handBack_nil {n : Nat} {all : List Key} {l : List Ob} : handBack n all [] [] l = some [] := rfl
theorem handBack_cons {n : Nat} {all : List Key} {k : Key} {ks : List Key} {o t x : Ob} {obs xs : List Ob} : handBack n all (k :: ks) (o :: t :: obs) (x :: xs) = if o.cs.length = x.cs.length then (handBack n all ks obs xs).map fun r => .cells k.at 0 (cback all (tokH n k.at) (t.g + 1) x.cs) :: .setb (tokH n k.at) ⟨t.g + 1, 0, []⟩ :: r else none := rfl
theorem cback_nil {ks : List Key} {h g : Nat} : cback ks h g [] = [] := rfl
theorem cback_esl {ks : List Key} {h g : Nat} {cs : List C} : cback ks h g (.esl :: cs) = .esl :: cback ks h g cs := rfl
theorem cback_own {ks : List Key} {h g ty : Nat} {es : List (List V)} {cs : List C} : cback ks h g (.own ty es :: cs) = .lin h g ty es :: cback ks h g cs := rfl
theorem cback_v {ks : List Key} {h g : Nat} {x : V} {cs : List C} : cback ks h g (.v x :: cs) = .v x :: cback ks h g cs := rfl
theorem cback_ref {ks : List Key} {h g o : Nat} {k : Key} {cs : List C} : cback ks h g (.ref k o :: cs) = (backC ks (.ref k o)).getD .dead :: cback ks h g cs := rfl
theorem cback_osl {ks : List Key} {h g o a l : Nat} {k : Key} {cs : List C} : cback ks h g (.osl k o a l :: cs) = (backC ks (.osl k o a l)).getD .dead :: cback ks h g cs := rfl
theorem backC_v {ks : List Key} {x : V} : backC ks (.v x) = some (.v x) := rfl
theorem backC_esl {ks : List Key} : backC ks .esl = some .esl := rfl
theorem backC_ref {ks : List Key} {i o : Nat} : backC ks (.ref (.fo i) o) = (ks[i]?).map fun k => .ref k o := rfl
theorem backC_osl {ks : List Key} {i a b c : Nat} : backC ks (.osl (.fo i) a b c) = (ks[i]?).map fun k => .osl k a b c := rfl
theorem backL_nil {ks : List Key} : backL ks [] = some [] := rfl
theorem backL_cons {ks : List Key} {c : C} {cs : List C} : backL ks (c :: cs) = LA (backC ks c) (backL ks cs) := by
  simp only [backL]; cases backC ks c <;> cases backL ks cs <;> rfl
theorem backT_one {ks : List Key} {c : C} : backT ks (.one c) = (backC ks c).map .one := by simp only [backT]
theorem backT_agg {ks : List Key} {cs : List C} : backT ks (.agg cs) = (backL ks cs).map .agg := by simp only [backT]
theorem backT_tup {ks : List Key} {ts : List T} : backT ks (.tup ts) = (backT.backTs ks ts).map .tup := by simp only [backT]
theorem backTs_nil {ks : List Key} : backT.backTs ks [] = some [] := by simp only [backT.backTs]
theorem backTs_cons {ks : List Key} {t : T} {ts : List T} : backT.backTs ks (t :: ts) = AllA (backT ks t) (backT.backTs ks ts) := by
  simp only [backT.backTs]; cases backT ks t <;> cases backT.backTs ks ts <;> rfl
theorem enterO_nil {h : Nat} : enterO h [] = [] := by simp only [enterO]
theorem enterO_own {h ty : Nat} {es : List (List V)} {cs : List C} : enterO h (.own ty es :: cs) = .lin h 0 ty es :: enterO h cs := by simp only [enterO]
theorem enterO_v {h : Nat} {x : V} {cs : List C} : enterO h (.v x :: cs) = .v x :: enterO h cs := by simp only [enterO]
theorem enterO_esl {h : Nat} {cs : List C} : enterO h (.esl :: cs) = .esl :: enterO h cs := by simp only [enterO]
theorem enterO_ref {h o : Nat} {k : Key} {cs : List C} : enterO h (.ref k o :: cs) = .ref k o :: enterO h cs := by simp only [enterO]
theorem enterO_osl {h a b c : Nat} {k : Key} {cs : List C} : enterO h (.osl k a b c :: cs) = .osl k a b c :: enterO h cs := by simp only [enterO]
theorem ones_nil : ones [] = some [] := rfl
theorem ones_v {x : V} {ts : List T} : ones (.one (.v x) :: ts) = (ones ts).map (.v x :: ·) := by simp only [ones]
theorem ones_ref {k : Key} {o : Nat} {ts : List T} : ones (.one (.ref k o) :: ts) = (ones ts).map (.ref k o :: ·) := by simp only [ones]
theorem ones_fn {f : Fn} {a b : List C} {ts : List T} : ones (.one (.fn f a b) :: ts) = (ones ts).map (.fn f a b :: ·) := by simp only [ones]
theorem couts_cons {u : List Nat} {o : Ob} {os : List Ob} : couts fr u (o :: os) = ⟨o.g, o.ty, (cout fr true u o.cs).1⟩ :: couts fr (cout fr true u o.cs).2 os := rfl
theorem cout_nil {b : Bool} {u : List Nat} : cout fr b u [] = ([], u) := by simp only [cout]
theorem cout_v {b : Bool} {u : List Nat} {x : V} {cs : List C} : cout fr b u (.v x :: cs) = (.v x :: (cout fr b u cs).1, (cout fr b u cs).2) := by simp only [cout]
theorem cout_esl {b : Bool} {u : List Nat} {cs : List C} : cout fr b u (.esl :: cs) = (.esl :: (cout fr b u cs).1, (cout fr b u cs).2) := by simp only [cout]
theorem cout_ref {b : Bool} {u : List Nat} {i o : Nat} {cs : List C} : cout fr b u (.ref (.fo i) o :: cs) = (.ref (.fo i) o :: (cout fr b u cs).1, (cout fr b u cs).2) := by simp only [cout]
theorem cout_osl {b : Bool} {u : List Nat} {i a c d : Nat} {cs : List C} : cout fr b u (.osl (.fo i) a c d :: cs) = (.osl (.fo i) a c d :: (cout fr b u cs).1, (cout fr b u cs).2) := by simp only [cout]
def CoutL (fr : Fr) (b : Bool) (u : List Nat) (h g ty : Nat) (es : List (List V)) (cs : List C) : Option Ob → List C × List Nat
  | some o => if b ∧ o.g = g ∧ h ∉ u then (.own ty es :: (cout fr false (h :: u) cs).1, (cout fr false (h :: u) cs).2) else (.v (.sl es) :: (cout fr b u cs).1, (cout fr b u cs).2)
  | none => (.v (.sl es) :: (cout fr b u cs).1, (cout fr b u cs).2)
theorem cout_lin {b : Bool} {u : List Nat} {h g ty : Nat} {es : List (List V)} {cs : List C} : cout fr b u (.lin h g ty es :: cs) = CoutL fr b u h g ty es cs (fr.look (.home h)) := by
  simp only [cout, CoutL, Fr.look]; cases fr.bx[h]? <;> rfl
theorem coutL_some {b : Bool} {u : List Nat} {h g ty : Nat} {es : List (List V)} {cs : List C} {o : Ob} : CoutL fr b u h g ty es cs (some o) = if b ∧ o.g = g ∧ h ∉ u then (.own ty es :: (cout fr false (h :: u) cs).1, (cout fr false (h :: u) cs).2) else (.v (.sl es) :: (cout fr b u cs).1, (cout fr b u cs).2) := rfl

attribute [go_sem] go_call backW_some handK_some gatherK_some keysK_cons dedup_nil dedup_cons refsT_one refsT_agg refsC_v refsC_esl refsC_lin refsC_osl refsC_ref refsC_fn refsC_own refsC_dead refsL_nil refsL_cons
  trT_one trT_agg trC_v trC_esl trC_lin trK_some trC_osl trC_ref trC_fn trL_nil trL_cons idx_cons gatherC_4 gatherC_3 gatherC_2 gathB_some gathC_some looks_nil looks_cons looksA_some
  keyLocs_nil keyLocs_cons tokH_home tokH_fo obsKeys_nil obsKeys_cons handIn_nil handIn_cons low_loc low_fo cin_nil cin_esl cin_lin cin_linf cin_v cin_ref cin_osl handBack_nil handBack_cons
  cback_nil cback_esl cback_own cback_v cback_ref cback_osl backC_v backC_esl backC_ref backC_osl backL_nil backL_cons backT_one backT_agg backT_tup backTs_nil backTs_cons
  enterO_nil enterO_own enterO_v enterO_esl enterO_ref enterO_osl ones_nil ones_v ones_ref ones_fn couts_cons cout_nil cout_v cout_esl cout_ref cout_osl cout_lin coutL_some
  List.flatMap_cons List.flatMap_nil List.not_mem_nil List.mem_cons List.mem_singleton List.set_cons_zero List.set_cons_succ Key.loc.injEq Key.fo.injEq List.cons.injEq if_true if_false
attribute [go_sem] not_false_eq_true not_true_eq_false

end Go.Dev.Wk

/- Small helps of the calculus. -/
namespace Go.Dev.Wk
open Go Go.Dev

theorem wrap_id {a : Int} (h1 : -9223372036854775808 ≤ a) (h2 : a < 9223372036854775808) : IntKind.i64.wrap a = a := by
  have e : IntKind.i64.wrap a = if a % 18446744073709551616 ≥ 9223372036854775808 then a % 18446744073709551616 - 18446744073709551616 else a % 18446744073709551616 := by
    show (if (true && decide (a % 18446744073709551616 ≥ 9223372036854775808)) = true then _ else _) = _
    by_cases h : a % 18446744073709551616 ≥ 9223372036854775808
    · simp only [h, decide_true, Bool.and_self, if_true]; rfl
    · simp only [h, decide_false, Bool.and_false, if_false]; rfl
  rw [e]
  split <;> omega

theorem wrap_nat {n : Nat} (h : n < 9223372036854775808) : IntKind.i64.wrap (n : Int) = n := wrap_id (by omega) (by omega)

theorem wrap_succ {n : Nat} (h : n < 9223372036854775807) : IntKind.i64.wrap ((n : Int) + 1) = ((n + 1 : Nat) : Int) := by
  rw [wrap_id (by omega) (by omega)]; rfl

theorem okB {n b : Nat} (h : 2 * n * b ≤ 281474976710656) : okBytes n b = true := by
  simpa [okBytes] using h

theorem allSz_take {sz : Nat} {es : List (List V)} (h : allSz sz es = true) (n : Nat) : allSz sz (es.take n) = true := by
  simp only [allSz, List.all_eq_true] at h ⊢
  exact fun x hx => h x (List.mem_of_mem_take hx)

theorem allSz_append {sz : Nat} {xs ys : List (List V)} : allSz sz (xs ++ ys) = (allSz sz xs && allSz sz ys) := by
  simp only [allSz, List.all_append]

theorem allSz_map {α : Type} {sz : Nat} {f : α → List V} (h : ∀ x, (f x).length = sz) (l : List α) : allSz sz (l.map f) = true := by
  simp [allSz, h]

theorem nlt_cast (a b : Nat) : ((a : Int) < (b : Int)) = (a < b) := by simp
theorem nle_cast (a b : Nat) : ((a : Int) ≤ (b : Int)) = (a ≤ b) := by simp
theorem ge0_cast (a : Nat) : (0 ≤ (a : Int)) = True := by simp
theorem nlt0_cast (a : Nat) : ((a : Int) < 0) = False := by simp
theorem natneg1 (a : Nat) : ((a : Int) = -1) = False := by simp
theorem ncast0 : ((0 : Nat) : Int) = 0 := rfl
theorem ncast1 : ((1 : Nat) : Int) = 1 := rfl
theorem ncast2 : ((2 : Nat) : Int) = 2 := rfl
theorem ncast_inj (a b : Nat) : ((a : Int) = (b : Int)) = (a = b) := propext Int.ofNat_inj

attribute [go_sem] nlt0_cast ncast_inj
attribute [go_sem] decide_eq_true_eq nlt_cast nle_cast ge0_cast Bool.not_eq_true' decide_eq_false_iff_not ite_not

end Go.Dev.Wk

/- The calculus: operations drawn in some order; lists gone through. -/
namespace Go.Dev.Wk
open Go Go.Dev

section
variable {E : Env} {Q : Ex → Fr → Prop} {ks : List Kt} {fr : Fr} {bad : List (Nat × Nat)} {fs : List Foot}
theorem wr_nilb {b : Nat × Nat} : WR E (b :: bad) [] fr fs ks Q ↔ checkBad fs (b :: bad) = true ∧ Gone E Q ks .nrm fr := wr_nil
def CheckA : Option Foot → Option Foot → Bool
  | some a, some b => apartF a b
  | _, _ => false
theorem checkBad_nil : checkBad fs [] = true := rfl
theorem checkBad_cons {i j : Nat} : checkBad fs ((i, j) :: bad) = (CheckA fs[i]? fs[j]? && checkBad fs bad) := by
  simp only [checkBad]; cases fs[i]? <;> cases fs[j]? <;> rfl
theorem checkA_some {a b : Foot} : CheckA (some a) (some b) = apartF a b := rfl
theorem apartF_eq {a b c d : List Loc} {u v : List W} : apartF (a, u) (b, v) = (a.all (fun l => v.all fun w => w.loc != l) && b.all (fun l => u.all fun w => w.loc != l) && u.all (fun x => v.all (apartW x))) := rfl
theorem loc_bne {a b : Loc} : (a != b) = !decide (a = b) := by
  by_cases h : a = b
  · subst h; simp
  · simp [h]
theorem wloc_cells {l : Loc} {o : Nat} {cs : List C} : (W.cells l o cs).loc = l := rfl
theorem wloc_setb {h : Nat} {o : Ob} : (W.setb h o).loc = .home h := rfl
theorem apartW_cc {l l' : Loc} {o o' : Nat} {cs cs' : List C} : apartW (.cells l o cs) (.cells l' o' cs') = (l != l' || decide (o + cs.length ≤ o') || decide (o' + cs'.length ≤ o)) := rfl
theorem apartW_cs {l : Loc} {o h : Nat} {cs : List C} {ob : Ob} : apartW (.cells l o cs) (.setb h ob) = (l != .home h) := rfl
theorem apartW_sc {l : Loc} {o h : Nat} {cs : List C} {ob : Ob} : apartW (.setb h ob) (.cells l o cs) = (Loc.home h != l) := rfl
theorem apartW_ss {h h' : Nat} {ob ob' : Ob} : apartW (.setb h ob) (.setb h' ob') = (Loc.home h != .home h') := rfl
end

attribute [go_sem] wr_nilb checkBad_nil checkBad_cons checkA_some apartF_eq loc_bne wloc_cells wloc_setb apartW_cc apartW_cs apartW_sc apartW_ss List.all_cons List.all_nil Loc.home.injEq Loc.fo.injEq

theorem wrap_pred {n : Nat} (h : n < 9223372036854775807) : IntKind.i64.wrap (((n + 1 : Nat) : Int) - 1) = (n : Int) := by
  rw [wrap_id (by omega) (by omega)]; omega

theorem find_at {α : Type} {p : α → Bool} {l : List α} {j : Nat} (h : j < l.length) (hp : p l[j] = true) (hn : ∀ i, (hi : i < j) → p (l[i]'(by omega)) = false) : l.findIdx? p = some j := by
  rw [List.findIdx?_eq_some_iff_getElem]
  exact ⟨h, hp, fun i hi => by simp [hn i hi]⟩

theorem find_none {α : Type} {p : α → Bool} {l : List α} (hn : ∀ i, (hi : i < l.length) → p l[i] = false) : l.findIdx? p = none := by
  rw [List.findIdx?_eq_none_iff]
  intro x hx
  obtain ⟨i, hi, rfl⟩ := List.mem_iff_getElem.1 hx
  exact hn i hi

theorem all_take_succ {α : Type} {p : α → Bool} {l : List α} {j : Nat} (h : j < l.length) : (l.take (j + 1)).all p = ((l.take j).all p && p l[j]) := by
  rw [List.take_add_one, List.getElem?_eq_getElem h, List.all_append]; simp only [Option.toList, List.all_cons, List.all_nil, Bool.and_true]

theorem all_false {α : Type} {p : α → Bool} {l : List α} {j : Nat} (h : j < l.length) (hp : p l[j] = false) : l.all p = false := by
  rw [List.all_eq_false]
  exact ⟨l[j], List.getElem_mem h, by simp [hp]⟩

end Go.Dev.Wk

/- The calculus: strings. -/
namespace Go.Dev.Wk
open Go Go.Dev

theorem str_beq (a b : ByteArray) : (a.toList == b.toList) = decide (a = b) := by
  rw [ByteArray.toList_eq, ByteArray.toList_eq]
  by_cases h : a = b
  · subst h; simp
  · have : ¬ a.data.toList = b.data.toList := fun e => h (ByteArray.ext (Array.ext' e))
    rw [decide_eq_false h]; exact beq_false_of_ne this

section
variable (a b : Int) (k : IntKind) (s t : ByteArray)
theorem bin_seql : bin .eql (.one (.v (.s (.string s)))) (.one (.v (.s (.string t)))) = some (.one (.v (.s (.bool (decide (s = t)))))) := by
  rw [← str_beq]; rfl
theorem bin_sneq : bin .neq (.one (.v (.s (.string s)))) (.one (.v (.s (.string t)))) = some (.one (.v (.s (.bool (!decide (s = t)))))) := by
  rw [← str_beq]; rfl
theorem bin_sadd (h : s.size + t.size < 9223372036854775808) : bin .add (.one (.v (.s (.string s)))) (.one (.v (.s (.string t)))) = some (.one (.v (.s (.string (s ++ t))))) := by
  have e : ¬ ((s.size + t.size : Nat) : Int) > IntKind.i64.max := by
    show ¬ ((s.size + t.size : Nat) : Int) > 9223372036854775807
    omega
  have : Op.stringOp .add s t = pure (.string (s ++ t)) := by
    simp only [Op.stringOp, e, if_false]
  simp only [bin, scal, strOp, this]; rfl
theorem bin_leql : bin .eql (.one (.v (.s (.int k a)))) (.one (.v (.s (.int k b)))) = some (.one (.v (.s (.bool (decide (a = b)))))) := by cases k <;> rfl
theorem bin_lneq : bin .neq (.one (.v (.s (.int k a)))) (.one (.v (.s (.int k b)))) = some (.one (.v (.s (.bool (!decide (a = b)))))) := by cases k <;> rfl
theorem bin_llss : bin .lss (.one (.v (.s (.int k a)))) (.one (.v (.s (.int k b)))) = some (.one (.v (.s (.bool (decide (a < b)))))) := by cases k <;> rfl
theorem bin_lleq : bin .leq (.one (.v (.s (.int k a)))) (.one (.v (.s (.int k b)))) = some (.one (.v (.s (.bool (decide (a ≤ b)))))) := by cases k <;> rfl
theorem bin_lgtr : bin .gtr (.one (.v (.s (.int k a)))) (.one (.v (.s (.int k b)))) = some (.one (.v (.s (.bool (decide (b < a)))))) := by cases k <;> rfl
theorem bin_lgeq : bin .geq (.one (.v (.s (.int k a)))) (.one (.v (.s (.int k b)))) = some (.one (.v (.s (.bool (decide (b ≤ a)))))) := by cases k <;> rfl
theorem conv_i (k' : IntKind) : conv (.toInt k) (.one (.v (.s (.int k' a)))) = some (.one (.v (.s (.int k (k.wrap a))))) := rfl
theorem pureBi_max : pureBi .max [.one (.v (.s (.int .i64 a))), .one (.v (.s (.int .i64 b)))] = some (.one (.v (.s (.int .i64 (if a < b then b else a))))) := rfl
theorem pureBi_min : pureBi .min [.one (.v (.s (.int .i64 a))), .one (.v (.s (.int .i64 b)))] = some (.one (.v (.s (.int .i64 (if b < a then b else a))))) := rfl
end

attribute [go_sem] bin_seql bin_sneq bin_leql bin_lneq bin_llss bin_lleq bin_lgtr bin_lgeq conv_i pureBi_max pureBi_min

end Go.Dev.Wk

/- The calculus: lists of the frame's own that are handed out. -/
namespace Go.Dev.Wk
open Go Go.Dev

theorem toVs_map (xs : List V) : Dev.toVs (xs.map .v) = some xs := by
  induction xs with
  | nil => rfl
  | cons x xs ih => rw [List.map_cons, toVs_v, ih]; rfl

theorem flat_len {sz : Nat} {es : List (List V)} (h : allSz sz es = true) : es.flatten.length = es.length * sz := by
  induction es with
  | nil => simp
  | cons e es ih =>
    rw [allSz_cons, Bool.and_eq_true] at h
    have := eq_of_beq h.1
    rw [List.flatten_cons, List.length_append, ih h.2, List.length_cons, Nat.succ_mul, this]
    omega

theorem chunk_flat {sz : Nat} {es : List (List V)} (h : allSz sz es = true) : chunk sz es.length es.flatten = es := by
  induction es with
  | nil => rfl
  | cons e es ih =>
    rw [allSz_cons, Bool.and_eq_true] at h
    have := eq_of_beq h.1
    simp only [List.length_cons, chunk, List.flatten_cons]
    subst this
    rw [List.take_left, List.drop_left, ih h.2]

section
variable {fr : Fr}
def OutL (sz off len g : Nat) : Option Ob → Option C
  | some o => if o.g = g ∧ off + len * sz ≤ o.cs.length then (Dev.toVs (o.cs.drop off)).map fun xs => .v (.sl (chunk sz len xs)) else none
  | none => none
theorem outC_osl {h g sz off len : Nat} : outC fr (.osl (.loc h g) sz off len) = OutL sz off len g (fr.look (.home h)) := by
  simp only [outC, OutL, Fr.look]; cases fr.bx[h]? <;> rfl
theorem outL_some {sz off len g : Nat} {o : Ob} : OutL sz off len g (some o) = if o.g = g ∧ off + len * sz ≤ o.cs.length then (Dev.toVs (o.cs.drop off)).map fun xs => .v (.sl (chunk sz len xs)) else none := rfl
def OutR (off g : Nat) : Option Ob → Option C
  | some o => if o.g = g then (Dev.toVs (o.cs.drop off)).map fun xs => .v (.pt xs) else none
  | none => none
theorem outC_ref {h g off : Nat} : outC fr (.ref (.loc h g) off) = OutR off g (fr.look (.home h)) := by
  simp only [outC, OutR, Fr.look]; cases fr.bx[h]? <;> rfl
theorem outR_some {off g : Nat} {o : Ob} : OutR off g (some o) = if o.g = g then (Dev.toVs (o.cs.drop off)).map fun xs => .v (.pt xs) else none := rfl

theorem outA_v {m h g : Nat} {x : V} : outA m h g (.v x) = some (.v x) := rfl
theorem outA_esl {m h g : Nat} : outA m h g .esl = some (.v (.sl [])) := rfl
theorem outA_lin {m h g a b ty : Nat} {es : List (List V)} : outA m h g (.lin a b ty es) = some (.v (.sl es)) := rfl
theorem outA_osl {m h g h' g' sz off len : Nat} : outA m h g (.osl (.loc h' g') sz off len) = if h' = h ∧ g' = g then some (.osl (.fo m) sz off len) else none := rfl

def FinA (fr : Fr) (rs : List T) : List (Nat × Nat) → Option (T × List Ob)
  | [(h, g)] => match fr.look (.home h) with
      | some o => if o.g = g then match Dev.toVs o.cs, outTs (outA fr.fo.length h g) rs with
          | some xs, some rs' => some (pack rs', couts fr [] fr.fo ++ [⟨0, 0, xs.map .v⟩])
          | _, _ => none
        else none
      | none => none
  | [] => (outTs (outC fr) rs).map fun rs' => (pack rs', couts fr [] fr.fo ++ [⟨0, 0, []⟩])
  | _ => none
theorem finish_true {rs : List T} : finish true fr rs = FinA fr rs (rs.flatMap (fun t => t.cells.flatMap ownC)) := by
  simp only [finish, if_true]
  rfl
def FinB (fr : Fr) (g : Nat) (rs : Option (List T)) : Option Ob → Option (T × List Ob)
  | some o => if o.g = g then FinC fr (Dev.toVs o.cs) rs else none
  | none => none
where FinC (fr : Fr) : Option (List V) → Option (List T) → Option (T × List Ob)
  | some xs, some rs' => some (pack rs', couts fr [] fr.fo ++ [⟨0, 0, xs.map .v⟩])
  | _, _ => none
theorem finA_one {rs : List T} {h g : Nat} : FinA fr rs [(h, g)] = FinB fr g (outTs (outA fr.fo.length h g) rs) (fr.look (.home h)) := by
  simp only [FinA, FinB]
  cases fr.look (.home h) with
  | none => rfl
  | some o =>
    simp only
    split
    · cases Dev.toVs o.cs <;> cases outTs (outA fr.fo.length h g) rs <;> rfl
    · rfl
theorem finB_some {g : Nat} {rs : Option (List T)} {o : Ob} : FinB fr g rs (some o) = if o.g = g then FinB.FinC fr (Dev.toVs o.cs) rs else none := rfl
theorem finC_some {xs : List V} {rs : List T} : FinB.FinC fr (some xs) (some rs) = some (pack rs, couts fr [] fr.fo ++ [⟨0, 0, xs.map .v⟩]) := rfl
theorem finA_nil {rs : List T} : FinA fr rs [] = (outTs (outC fr) rs).map fun rs' => (pack rs', couts fr [] fr.fo ++ [⟨0, 0, []⟩]) := rfl
theorem ownC_v {x : V} : ownC (.v x) = [] := rfl
theorem ownC_esl : ownC .esl = [] := rfl
theorem ownC_lin {h g ty : Nat} {es : List (List V)} : ownC (.lin h g ty es) = [] := rfl
theorem ownC_osl {h g a b c : Nat} : ownC (.osl (.loc h g) a b c) = [(h, g)] := rfl
theorem cells_one {c : C} : (T.one c).cells = [c] := rfl
theorem cells_agg {cs : List C} : (T.agg cs).cells = cs := rfl
end

attribute [go_sem] toVs_map outC_osl outL_some outC_ref outR_some outA_v outA_esl outA_lin outA_osl finish_true finA_one finB_some finC_some finA_nil ownC_v ownC_esl ownC_lin ownC_osl cells_one cells_agg

end Go.Dev.Wk

/- The calculus: bytes of strings as lists. -/
namespace Go.Dev.Wk
open Go Go.Dev

theorem bytes_append (s t : ByteArray) : byteCells (s ++ t) = byteCells s ++ byteCells t := by
  simp only [byteCells, ByteArray.data_append, Array.toList_append, List.map_append]

theorem bytes_len (s : ByteArray) : (byteCells s).length = s.size := by
  simp only [byteCells, List.length_map]; rfl

theorem bytes_sz (s : ByteArray) : allSz 1 (byteCells s) = true := by
  exact allSz_map (f := fun (b : UInt8) => [V.s (.int .u8 b.toNat)]) (fun _ => rfl) _

theorem bytes_nil {s : ByteArray} : (byteCells s).isEmpty = decide (s = ⟨#[]⟩) := by
  obtain ⟨⟨l⟩⟩ := s
  cases l with
  | nil => rfl
  | cons a l => simp [byteCells]

theorem bytesV_cells (s : ByteArray) : bytesV (byteCells s).flatten = some s.data.toList := by
  simp only [byteCells]
  generalize s.data.toList = l
  induction l with
  | nil => rfl
  | cons a l ih =>
    simp only [List.map_cons, List.flatten_cons, List.cons_append, List.nil_append, bytesV, ih, Option.map_some]
    simp

theorem toList_toArray (s : ByteArray) : (⟨s.data.toList.toArray⟩ : ByteArray) = s := rfl

theorem size_append (s t : ByteArray) : (s ++ t).size = s.size + t.size := ByteArray.size_append
theorem nil_app (s : ByteArray) : (⟨#[]⟩ : ByteArray) ++ s = s := ByteArray.empty_append
theorem app_nil (s : ByteArray) : s ++ (⟨#[]⟩ : ByteArray) = s := ByteArray.append_empty

end Go.Dev.Wk

/- The calculus: pointers held against each other; calls of functions without body. -/
namespace Go.Dev.Wk
open Go Go.Dev

section
variable {E : Env} {Q : Ex → Fr → Prop} {ks : List Kt} {fr : Fr} {bad : List (Nat × Nat)} {os : List DOper} {fs : List Foot}
theorem peqA_nn {neq : Bool} : peqA neq (.one (.v (.s (.pointer none)))) (.one (.v (.s (.pointer none)))) = .done (some (tB (!neq), [])) := rfl
theorem peqA_rn {neq : Bool} {k : Key} {o : Nat} : peqA neq (.one (.ref k o)) (.one (.v (.s (.pointer none)))) = .done (some (tB neq, [])) := rfl
theorem peqA_nr {neq : Bool} {k : Key} {o : Nat} : peqA neq (.one (.v (.s (.pointer none)))) (.one (.ref k o)) = .done (some (tB neq, [])) := rfl
theorem peqA_pn {neq : Bool} {cs : List V} : peqA neq (.one (.v (.pt cs))) (.one (.v (.s (.pointer none)))) = .done (some (tB neq, [])) := rfl
theorem peqA_np {neq : Bool} {cs : List V} : peqA neq (.one (.v (.s (.pointer none)))) (.one (.v (.pt cs))) = .done (some (tB neq, [])) := rfl
theorem peqA_rr {neq : Bool} {k k' : Key} {o o' : Nat} : peqA neq (.one (.ref k o)) (.one (.ref k' o')) = if k = k' ∧ o = o' then .one k.at fun q => if k.fits q.g && !q.cs.isEmpty then some (tB (!neq), []) else none else .done none := rfl

theorem callX {dst : Option Nat} {k : Nat} {args : List T} {t : T} {p : List T → Option T} {ad : Bool} (he : E.ext k = some p) (ht : p args = some t)
    (hw : WR E bad os (putT fr dst t) (fs ++ [([], [])]) ks Q) : CallC E bad os fr fs ks Q dst ad (.one (.fn (.func k) [] [])) args := by
  refine wr_step (N := 0) (f := ([], [])) ?_ hw
  have e : List.map T.one [] ++ List.map fr.get (List.map Opd.c args) ++ List.map T.one [] = args := by simp only [List.map_nil, List.nil_append, map_get_c, List.append_nil]
  have e2 : callee (fr.get (.c (.one (.fn (.func k) [] [])))) = some (k, [], []) := rfl
  simp only [step, wants, act, callOp, e2, he, e, ht, Option.map_some, Fr.ask, Fr.writes]
end

attribute [go_sem] peqA_nn peqA_rn peqA_nr peqA_pn peqA_np peqA_rr Prod.mk.injEq true_or or_true or_false false_or and_false false_and

end Go.Dev.Wk
