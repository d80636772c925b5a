/- An evaluator by value of the translated code, and a calculus of it: what it computes, the machine of the model computes (for the operations that are listed, under no further condition). -/
import Derived.Test.YtkefplbhpbdhdaaEa
import Derived.Lib.UnsafeStr
set_option linter.all false
/- Small builtins, clear, bytes as they lie. -/
namespace Go.Dev
open Go

variable {P : Program}

section
variable {e : Ent} {c : Cx} {fr : Fr} {a : Act} {o : Oper}

theorem builtin_exec {b : Builtin} {cl : Call} {xs : List Operand} {r : Result Next} (ho : o.op = .call cl) (hb : cl.callee = .builtin b) (hargs : cl.args.toList = xs)
    (k : ∀ consts, (builtin b cl.argTypes o.type consts ⟨xs.map a.eval⟩).run P c.w = r) : (execOp a.eval o).run P c.w = r := by
  have ha : cl.args.map a.eval = ⟨xs.map a.eval⟩ := by rw [← hargs, ← Array.toList_map]
  simp only [execOp, ho, resolve, hb, ha, Sem.run_bind, Sem.run_pure, Result.andThen_ok, invoke]
  exact k _

theorem relTs_cons {c : Cx} {t : T} {ts : List T} {vs : List Value} (h : RelTs c (t :: ts) vs) : ∃ v us, vs = v :: us ∧ RelT c t v ∧ RelTs c ts us := by
  cases vs with
  | nil => simp [RelTs] at h
  | cons v us => simp only [RelTs] at h; exact ⟨v, us, rfl, h.1, h.2⟩

theorem relTs_nil {c : Cx} {vs : List Value} (h : RelTs c [] vs) : vs = [] := by
  cases vs with
  | nil => rfl
  | cons v us => simp [RelTs] at h

theorem snd_pureBi (R : RelFr e c fr a.tmps) {b : Builtin} {xs : List Operand} {xs' : List Opd} {cl : Call} (ho : o.op = .call cl) (hb : cl.callee = .builtin b) (hargs : cl.args.toList = xs) (hx : cOpds xs = some xs') {t : T} {ws : List W}
    (h : (pureBi b (xs'.map fr.get)).map (fun t => (t, ([] : List W))) = some (t, ws)) : Snd P e c fr a o t ws := by
  have hr := gets_rel R hx
  cases hp : pureBi b (xs'.map fr.get) with
  | none => simp [hp] at h
  | some t' =>
    simp only [hp, Option.map_some, Option.some.injEq, Prod.mk.injEq] at h
    obtain ⟨rfl, rfl⟩ := h
    unfold pureBi at hp
    split at hp
    · rename_i heq
      rw [heq] at hr
      obtain ⟨v, us, k1, k2, k3⟩ := relTs_cons hr
      have k4 := relTs_nil k3
      subst k4
      simp only [Option.some.injEq] at hp
      subst hp
      obtain ⟨rfl, _⟩ := k2.lit
      refine Snd.plain R (builtin_exec ho hb hargs fun cs => ?_) (RelT.mkLit rfl)
      rw [k1]; rfl
    · rename_i heq
      rw [heq] at hr
      obtain ⟨v, us, k1, k2, k3⟩ := relTs_cons hr
      have k4 := relTs_nil k3
      subst k4
      simp only [Option.some.injEq] at hp
      subst hp
      obtain ⟨rfl, _⟩ := k2.lit
      refine Snd.plain R (builtin_exec ho hb hargs fun cs => ?_) (RelT.mkLit rfl)
      rw [k1]; rfl
    · rename_i heq
      rw [heq] at hr
      obtain ⟨v, us, k1, k2, k3⟩ := relTs_cons hr
      obtain ⟨v2, us2, k5, k6, k7⟩ := relTs_cons k3
      have k4 := relTs_nil k7
      subst k4
      subst k5
      split at hp
      · rename_i hk
        subst hk
        simp only [Option.some.injEq] at hp
        subst hp
        obtain ⟨rfl, _⟩ := k2.lit
        obtain ⟨rfl, _⟩ := k6.lit
        refine Snd.plain R (builtin_exec ho hb hargs fun cs => ?_) (RelT.mkLit rfl)
        rw [k1]
        have hcm : ∀ (k : FloatKind) re im, (Builtin.complex_ cl.argTypes o.type #[.float k re, .float k im]).run P c.w = .ok (.complex k re im) c.w := fun k re im => by
          show (if k = k then (pure (.complex k re im) : Sem Value) else _).run P c.w = _
          rw [if_pos rfl]
          rfl
        simp only [builtin, Sem.run_bind]
        erw [hcm]
        rfl
      · cases hp
    · rename_i heq
      rw [heq] at hr
      obtain ⟨v, us, k1, k2, k3⟩ := relTs_cons hr
      obtain ⟨v2, us2, k5, k6, k7⟩ := relTs_cons k3
      have k4 := relTs_nil k7
      subst k4
      subst k5
      split at hp
      · rename_i hk
        subst hk
        simp only [Option.some.injEq] at hp
        subst hp
        obtain ⟨rfl, _⟩ := k2.lit
        obtain ⟨rfl, _⟩ := k6.lit
        refine Snd.plain R (builtin_exec ho hb hargs fun cs => ?_) (RelT.mkLit rfl)
        rw [k1]
        simp [builtin, Builtin.min_, Builtin.min2]
      · cases hp
    · rename_i heq
      rw [heq] at hr
      obtain ⟨v, us, k1, k2, k3⟩ := relTs_cons hr
      obtain ⟨v2, us2, k5, k6, k7⟩ := relTs_cons k3
      have k4 := relTs_nil k7
      subst k4
      subst k5
      split at hp
      · rename_i hk
        subst hk
        simp only [Option.some.injEq] at hp
        subst hp
        obtain ⟨rfl, _⟩ := k2.lit
        obtain ⟨rfl, _⟩ := k6.lit
        refine Snd.plain R (builtin_exec ho hb hargs fun cs => ?_) (RelT.mkLit rfl)
        rw [k1]
        simp [builtin, Builtin.max_, Builtin.max2]
      · cases hp
    · cases hp

theorem zeroCells_flat (z : Array Value) (n : Nat) : (Builtin.zeroCells z n).toList = (List.replicate n z.toList).flatten := by
  apply List.ext_getElem?
  intro j
  rcases Nat.eq_zero_or_pos z.size with h0 | h0
  · have hz : z = #[] := Array.size_eq_zero_iff.1 h0
    subst hz
    simp [Builtin.zeroCells]
  · have key : ∀ (m j : Nat), (List.replicate m z.toList).flatten[j]? = if j < m * z.size then z[j % z.size]? else none := by
      intro m
      induction m with
      | zero => intro j; simp
      | succ m ih =>
        intro j
        rw [List.replicate_succ, List.flatten_cons]
        by_cases hj : j < z.size
        · rw [List.getElem?_append_left (by simpa using hj), Array.getElem?_toList, Nat.mod_eq_of_lt hj, if_pos (by rw [Nat.add_mul]; omega)]
        · rw [List.getElem?_append_right (by simpa using hj), Array.length_toList, ih, Nat.mod_eq_sub_mod (a := j) (b := z.size) (by omega)]
          have : (j - z.size < m * z.size) ↔ j < (m + 1) * z.size := by rw [Nat.add_mul]; omega
          simp only [this]
    rw [key, Array.getElem?_toList]
    simp only [Builtin.zeroCells, Array.getElem?_map, Array.getElem?_range]
    by_cases hj : j < n * z.size
    · have hm : j % z.size < z.size := Nat.mod_lt _ h0
      simp [hj, hm, Array.getElem?_eq_getElem hm, getElem!_pos z (j % z.size) hm]
    · simp [hj]

theorem relCs_flatten {c : Cx} {zs : List C} {vs : List Value} (h : RelCs c zs vs) : ∀ n : Nat, RelCs c (List.replicate n zs).flatten (List.replicate n vs).flatten
  | 0 => by simp [RelCs]
  | n + 1 => by simp only [List.replicate_succ, List.flatten_cons]; exact h.append (relCs_flatten h n)

theorem snd_clear (R : RelFr e c fr a.tmps) {t el : TypeId} {i : TypeInfo} {x : Operand} {x' : Opd} {cl : Call} {zs : List C} (ho : o.op = .call cl) (hb : cl.callee = .builtin .clear) (hargs : cl.args.toList = [x]) (hty : cl.argTypes.toList = [t])
    (ht : P.underlying t = some (.slice el)) (hi : P.info? el = some i) (hsz : i.size ≠ 0) (hz : zeroC P el = some zs) (hx : cOpd x = some x') {r : T} {ws : List W} {ls : List Loc}
    (h : fr.ask (match fr.get x' with
    | .one (.osl k sz off len) => .one k.at fun q => if k.fits q.g ∧ zs.length = sz ∧ off + len * sz ≤ q.cs.length then some (.one .dead, [.cells k.at off (List.replicate len zs).flatten]) else none
    | _ => .done none) = some (r, ws, ls)) : Snd P e c fr a o r ws := by
  have hcx := get_rel R hx
  have hat : cl.argTypes = #[t] := by rw [← Array.toArray_toList (xs := cl.argTypes), hty]
  obtain ⟨i', z, hi', hz', hzs, hzr⟩ := zeroC_rel (c := c) hz
  rw [hi] at hi'
  cases hi'
  split at h
  · rename_i k sz off len hg
    rw [hg] at hcx
    have hcl := hcx.one_live (by simp)
    simp only [RelC] at hcl
    obtain ⟨hle, A, cap, hv, hlc, hbk⟩ := hcl
    have hask := ask_one h
    clear h
    obtain ⟨q, hq, h⟩ := hask
    split at h
    · rename_i hc
      obtain ⟨hf, hzl, hfit⟩ := hc
      simp only [Option.some.injEq, Prod.mk.injEq] at h
      obtain ⟨rfl, rfl⟩ := h
      have hzlen := hzr.length
      rw [Array.length_toList (xs := z.cells), hzs] at hzlen
      intro fr' hw
      by_cases h0 : len = 0
      · subst h0
        have hfr : fr' = fr ∨ True := .inr trivial
        -- nothing is written
        have hrun : (execOp a.eval o).run P c.w = .ok (.value (.tuple #[])) c.w := builtin_exec ho hb hargs fun cs => by
          simp only [builtin, hat, List.map_cons, List.map_nil, hv]
          cases A <;> simp [Builtin.clear_, run_underlying ht]
        simp only [List.replicate_zero, List.flatten_nil] at hw
        have hw1 := writes_one hw
        have hsame : ∀ cs : List C, splice cs off [] = cs := fun cs => by simp [splice]
        have hfr' : fr' = fr := by
          cases k with
          | loc h' g =>
            simp only [Key.at, Fr.look] at hq
            simp only [Key.at, Fr.write, hq] at hw1
            split at hw1
            · simp only [Option.some.injEq, hsame] at hw1
              rw [← hw1]
              have : fr.bx.set h' q = fr.bx := by
                apply List.ext_getElem?
                intro j
                rw [List.getElem?_set]
                split
                · rename_i hj; subst hj; have hl := (List.getElem?_eq_some_iff.1 hq).1; simp [hl, ← hq]
                · rfl
              cases q
              simp only at this ⊢
              rw [this]
            · cases hw1
          | fo j' =>
            simp only [Key.at, Fr.look] at hq
            simp only [Key.at, Fr.write, hq] at hw1
            split at hw1
            · simp only [Option.some.injEq, hsame] at hw1
              rw [← hw1]
              have : fr.fo.set j' q = fr.fo := by
                apply List.ext_getElem?
                intro j
                rw [List.getElem?_set]
                split
                · rename_i hj; subst hj; have hl := (List.getElem?_eq_some_iff.1 hq).1; simp [hl, ← hq]
                · rfl
              cases q
              simp only at this ⊢
              rw [this]
            · cases hw1
        subst hfr'
        exact ⟨_, c, .inl hrun, CxLe.refl c, R, by simp [RelT]⟩
      · have hne : (List.replicate len zs).flatten ≠ [] := by
          intro k0
          have := congrArg List.length k0
          simp only [List.length_flatten, List.map_replicate, List.sum_replicate_nat, List.length_nil] at this
          rcases Nat.mul_eq_zero.1 this with k1 | k1 <;> omega
        have hlen : (List.replicate len zs).flatten.length = len * sz := by
          simp only [List.length_flatten, List.map_replicate, List.sum_replicate_nat, hzl]
        have hrel := relCs_flatten hzr len
        obtain ⟨hok, arr, ty', fr'', hw', h1, h2, H, R'⟩ := R.store (k := k) (o := q) (off := off) (ds := (List.replicate len zs).flatten) hq hf (by omega) hne hrel
        rw [writes_one hw] at hw'
        cases hw'
        obtain ⟨b, arr0, ty0, fz0, hA, hb0, hfit0, hbl⟩ := hbk (by omega)
        have hbb := hbl hok
        subst hbb
        subst hA
        obtain ⟨m, rfl⟩ : ∃ m, len = m + 1 := ⟨len - 1, by omega⟩
        refine ⟨.tuple #[], _, .inl ?_, H, R', by simp [RelT]⟩
        have hst := run_storeCells_at (P := P) (k.blk c.gh) off ty' (List.replicate (m + 1) z.cells.toList).flatten 0 arr c.w h1 (by omega) (fun v hv => hrel.flat v hv)
        simp only [Nat.add_zero] at hst
        refine builtin_exec ho hb hargs fun cs => ?_
        simp only [builtin, hat, List.map_cons, List.map_nil, hv]
        have hzv := run_zeroValue' (P := P) hi hz'
        simp [Builtin.clear_, run_underlying ht, hzv, hst, Cx.row, rowPut, zeroCells_flat]
    · cases h
  · simp [Fr.ask] at h

/-! ### Bytes as they lie -/

theorem snd_sdata (R : RelFr e c fr a.tmps) {x : Operand} {x' : Opd} {cl : Call} (ho : o.op = .call cl) (hb : cl.callee = .builtin .unsafeSliceData) (hargs : cl.args.toList = [x]) (hx : cOpd x = some x') {r : T} {ws : List W} {ls : List Loc}
    (h : fr.ask (match fr.get x' with
    | .one (.lin h g ty es) => .one (.home h) fun q => if q.g = g then some (.one (.sd h g ty es), []) else none
    | _ => .done none) = some (r, ws, ls)) : Snd P e c fr a o r ws := by
  have hcx := get_rel R hx
  split at h
  · rename_i h' g ty es hg
    rw [hg] at hcx
    have hcl := hcx.one_live (by simp)
    simp only [RelC] at hcl
    obtain ⟨hrv, hle, htip⟩ := hcl
    obtain ⟨q, hq, h⟩ := ask_one h
    split at h
    · rename_i hqg
      simp only [Option.some.injEq, Prod.mk.injEq] at h
      obtain ⟨rfl, rfl⟩ := h
      have hgen : c.gen h' = g := by simp only [Fr.look] at hq; rw [R.gen]; exact Fr.ob_loc hq hqg
      have tip := htip hgen.symm
      have tip' := tip
      obtain ⟨of, len, cap, arr, fz, sz, e1, e2, e3, e4, e5, e6, _⟩ := tip
      have hcap : cap ≠ 0 := by have := List.length_pos_iff.2 e2; omega
      subst e5
      refine Snd.plain R (v := .pointer (some ⟨c.gh.β h', of, none⟩)) (builtin_exec ho hb hargs fun cs => ?_) (RelT.one ?_)
      · simp only [builtin, List.map_cons, List.map_nil, e1]
        rw [Sem.run_bind, Lib.run_unsafeSliceData_row c.w _ _ _ _ _ hcap]
        rfl
      · simp only [RelC]
        refine ⟨rfl, hle, fun _ => ⟨_, cap, rfl, ?_, ?_⟩⟩
        · rw [← e1]; exact tip'
        · rw [← e1]; exact hrv
    · cases h
  · simp [Fr.ask] at h

theorem liesAt_bytes' {el : TypeId} (hc : P.cellsOf el = 1) (count off n : Nat) (hn : off + n ≤ count) : liesAt P P.depth el count off el n = true := by
  have hd : P.depth = (2 * (P.types.size + Made.depth) + 1) + 1 := rfl
  rw [hd]
  simp only [liesAt, Bool.or_eq_true]
  left
  rw [hd]
  simp [rowAt, hc, sameLayout]
  omega

theorem run_loadBytes' {w : World} : ∀ (l : List Int) (g o : Nat) (acc : ByteArray), (∀ (j : Nat) (x : Int), l[j]? = some x → w.cell? ⟨g, o + j, none⟩ = some (.int .u8 x)) →
    (loadBytes ⟨g, o, none⟩ acc l.length).run P w = .ok ⟨acc.data ++ (l.map fun n => UInt8.ofNat n.toNat).toArray⟩ w
  | [], g, o, acc, _ => by simp [loadBytes]
  | x :: l, g, o, acc, h => by
    have h0 : w.cell? ⟨g, o, none⟩ = some (.int .u8 x) := h 0 x rfl
    have ih := run_loadBytes' l g (o + 1) (acc.push (UInt8.ofNat x.toNat)) (fun j y hy => by
      have := h (j + 1) y (by simpa using hy)
      rw [show o + 1 + j = o + (j + 1) by omega]; exact this)
    simp only [List.length_cons, loadBytes, Sem.run_bind, run_load, h0, Result.andThen_ok, addr_add]
    rw [show x.toNat.toUInt8 = UInt8.ofNat x.toNat from rfl, ih]
    congr 1
    apply ByteArray.ext
    simp [ByteArray.push]

theorem run_unsafeString_at {w : World} (pt it ty el : TypeId) (hp : P.underlying pt = some (.pointer el)) (hc : P.cellsOf el = 1) (g of cells : Nat) (hsh : w.shape? g = some (el, cells)) (l : List Int) (h0 : l ≠ []) (hn : of + l.length ≤ cells) (h63 : (l.length : Int) ≤ 9223372036854775807)
    (hcell : ∀ (j : Nat) (x : Int), l[j]? = some x → w.cell? ⟨g, of + j, none⟩ = some (.int .u8 x)) :
    (Builtin.unsafeString_ #[pt, it] ty #[.pointer (some ⟨g, of, none⟩), .int .i64 l.length]).run P w = .ok (.string ⟨(l.map fun n => UInt8.ofNat n.toNat).toArray⟩) (w.freeze ⟨g, of, none⟩ l.length) := by
  have hl : l.length ≠ 0 := by simpa using h0
  have hlb := run_loadBytes' (P := P) (w := w) l g of .empty hcell
  have hlies := liesAt_bytes' (P := P) hc (cells / P.cellsOf el) of l.length (by rw [hc]; simpa using hn)
  have h63' : ¬ (9223372036854775807 : Int) < (l.length : Int) := by omega
  have hneg : ¬ (l.length : Int) < 0 := by omega
  have hmax : IntKind.i64.max = 9223372036854775807 := rfl
  have hdef : Builtin.unsafeString_ #[pt, it] ty #[.pointer (some ⟨g, of, none⟩), .int .i64 l.length] =
      (do
        let n ← asInt (.int .i64 l.length)
        if n < 0 then runtimePanic (.error "unsafe.String: len out of range")
        if n > IntKind.i64.max then unsupported (.unsafePointer "String: a length above the largest int")
        if n = 0 then pure (.string .empty)
        else if ← variablesAt ⟨g, of, none⟩ (← elemOf pt) n.toNat then do
          let s ← loadBytes ⟨g, of, none⟩ .empty n.toNat
          freeze ⟨g, of, none⟩ n.toNat
          pure (.string s)
        else unsupported (.unsafePointer "String: not so many bytes at ptr")) := rfl
  have hva : (variablesAt ⟨g, of, none⟩ el l.length).run P w = .ok true w := by simp [variablesAt, hsh, hlies]
  rw [hdef]
  simp [asInt, asIntOf, hmax, hl, h63', hneg, elemOf, run_underlying hp, hva, hlb]

theorem freeze_heap {w : World} {b of n : Nat} {arr : Array Value} {ty : TypeId} {fz : Nat × Nat} (h : w.heap[b]? = some (.cells arr ty fz)) (hn : n ≠ 0) :
    (∀ i, i ≠ b → (w.freeze ⟨b, of, none⟩ n).heap[i]? = w.heap[i]?) ∧ ∃ fz', (w.freeze ⟨b, of, none⟩ n).heap[b]? = some (.cells arr ty fz') ∧ fz'.2 ≤ max fz.2 (of + n) := by
  obtain ⟨lo, hi⟩ := fz
  refine ⟨fun i hi' => ?_, ?_⟩
  · simp only [World.freeze, if_neg hn, Array.getElem?_modify]; rw [if_neg (fun k => hi' k.symm)]
  · simp only [World.freeze, if_neg hn, Array.getElem?_modify, if_true, h, Option.map_some]
    refine ⟨_, rfl, ?_⟩
    split
    · simp only; omega
    · simp only; omega

/-- Cells are frozen that may be looked at. -/
theorem frozen_le {b of n : Nat} {arr : Array Value} {ty : TypeId} {fz : Nat × Nat} (h : c.w.heap[b]? = some (.cells arr ty fz)) (hn : n ≠ 0) (hG : of + n ≤ c.gh.G b) (how : ∃ h', c.gh.ow b = .home h') (R : RelFr e c fr a.tmps) :
    CxLe c (c.at (c.w.freeze ⟨b, of, none⟩ n)) ∧ RelFr e (c.at (c.w.freeze ⟨b, of, none⟩ n)) fr a.tmps := by
  obtain ⟨k1, fz', k2, k3⟩ := freeze_heap (of := of) h hn
  have H : CxLe c (c.at (c.w.freeze ⟨b, of, none⟩ n)) := {
    rd := fun i o' v h1 h2 => ⟨h1, by
      show World.cell? _ _ = _
      by_cases hi : i = b
      · subst hi
        rw [show (c.at (c.w.freeze ⟨i, of, none⟩ n)).w = c.w.freeze ⟨i, of, none⟩ n from rfl, cell_of_heap k2, ← cell_of_heap h]
        exact h2
      · simp only [World.cell?] at h2 ⊢
        rw [show (c.at (c.w.freeze ⟨b, of, none⟩ n)).w = c.w.freeze ⟨b, of, none⟩ n from rfl, k1 i hi]
        exact h2⟩
    size := fun i ar t f hi => by
      by_cases hib : i = b
      · subst hib
        rw [h] at hi
        simp only [Option.some.injEq, Obj.cells.injEq] at hi
        obtain ⟨rfl, rfl, rfl⟩ := hi
        exact ⟨arr, fz', k2, rfl⟩
      · exact ⟨ar, f, (k1 i hib).trans hi, rfl⟩
    gen := fun _ => Nat.le_refl _
    home := fun _ _ => rfl
    tip := fun a' ar t f _ hp h2 h3 => by
      by_cases hib : c.gh.β a' = b
      · rw [hib, h] at h3
        simp only [Option.some.injEq, Obj.cells.injEq] at h3
        obtain ⟨rfl, rfl, rfl⟩ := h3
        refine ⟨rfl, h2, arr, fz', by rw [hib]; exact k2, rfl, fun k => ?_⟩
        rw [hib] at k ⊢
        omega
      · exact ⟨rfl, h2, ar, f, (k1 _ hib).trans h3, rfl, id⟩
    fo := fun _ _ => rfl
    nfo := Nat.le_refl _ }
  refine ⟨H, ?_⟩
  obtain ⟨h', how⟩ := how
  have hbox : ∀ {b' : Nat} {own : Ow} {q : Ob}, BoxRel c b' own q → BoxRel (c.at (c.w.freeze ⟨b, of, none⟩ n)) b' own q := by
    intro b' own q hq
    have : b' ≠ b := by
      obtain ⟨_, _, _, _, _, k4, _⟩ := hq
      rintro rfl
      omega
    exact hq.mono H (k1 b' this) rfl rfl
  refine R.move H R.gen R.nfo rfl (fun a' q h1 h2 => hbox (R.bxs a' q h1 h2)) (fun i q h1 h2 => hbox (R.fos i q h1 h2)) (fun b' b1 b2 => k1 b' ?_) (fun _ _ _ => ⟨rfl, rfl⟩) ?_ ?_ ?_ ?_
  · rintro rfl
    have := (R.ows _ b1 b2).1
    rw [how] at this
    cases this
  · simp [Cx.at, World.freeze, hn]
  all_goals simp [Cx.at, World.freeze, hn]

theorem snd_ustr (R : RelFr e c fr a.tmps) {pt it el : TypeId} {x y : Operand} {x' y' : Opd} {cl : Call} (ho : o.op = .call cl) (hb : cl.callee = .builtin .unsafeString) (hargs : cl.args.toList = [x, y]) (hty : cl.argTypes.toList = [pt, it])
    (ht : P.underlying pt = some (.pointer el)) (hc : P.cellsOf el = 1) (hx : cOpd x = some x') (hy : cOpd y = some y') {r : T} {ws : List W} {ls : List Loc}
    (h : fr.ask (match fr.get x', fr.get y' with
    | .one (.sd h g ty' es), .one (.v (.s (.int .i64 n))) => .one (.home h) fun q => if q.g = g ∧ ty' = el ∧ n = es.length ∧ n ≤ 9223372036854775807 ∧ es.all (·.length == 1) then (bytesV es.flatten).map fun bs => (tS ⟨bs.toArray⟩, []) else none
    | _, _ => .done none) = some (r, ws, ls)) : Snd P e c fr a o r ws := by
  have hcx := get_rel R hx
  have hcy := get_rel R hy
  have hat : cl.argTypes = #[pt, it] := by rw [← Array.toArray_toList (xs := cl.argTypes), hty]
  split at h
  · rename_i h' g ty' es n hg1 hg2
    rw [hg1] at hcx
    rw [hg2] at hcy
    have hcl := hcx.one_live (by simp)
    simp only [RelC] at hcl
    obtain ⟨_, hle, htip⟩ := hcl
    have hv2 := hcy.lit.1
    have hask := ask_one h
    clear h
    obtain ⟨q, hq, h⟩ := hask
    split at h
    · rename_i hc'
      obtain ⟨hqg, rfl, hn, h63, hall⟩ := hc'
      have hall' : ∀ x ∈ es, x.length = 1 := by simpa using hall
      cases hbv : bytesV es.flatten with
      | none => simp [hbv] at h
      | some bs =>
        simp only [hbv, Option.map_some, Option.some.injEq, Prod.mk.injEq] at h
        obtain ⟨rfl, rfl⟩ := h
        have hgen : c.gen h' = g := by simp only [Fr.look] at hq; rw [R.gen]; exact Fr.ob_loc hq hqg
        obtain ⟨A, cap, hv, tip, hrv⟩ := htip hgen.symm
        obtain ⟨of, len, cap', arr, fz, sz, e1, e2, e3, e4, e5, e6, e7, e8, e9, e10, e11⟩ := tip
        simp only [Value.slice.injEq] at e1
        obtain ⟨rfl, rfl, rfl⟩ := e1
        obtain ⟨x0, xs0, hx0⟩ := List.exists_cons_of_ne_nil e2
        have hsz : sz = 1 := by
          have k1 := e3 x0 (by rw [hx0]; simp)
          have k2 := hall' x0 (by rw [hx0]; simp)
          omega
        subst hsz
        simp only [RelV] at hrv
        obtain ⟨A', len', cap'', sz', q1, q2, q3, q4⟩ := hrv
        simp only [Value.slice.injEq] at q1
        obtain ⟨rfl, _, _⟩ := q1
        rcases q4 with q4 | ⟨b', o', q5, q6⟩
        · exact absurd q4 e2
        · simp only [Option.some.injEq, Addr.mk.injEq] at q5
          obtain ⟨rfl, rfl, _⟩ := q5
          obtain ⟨ns, n1, n2, n3⟩ := bytesV_rel hbv q6.flat.1
          have hlen : bs.length = es.length := by rw [n1, List.length_map, n2, flatten_len hall', Nat.mul_one]
          have hne : es.length ≠ 0 := by rw [hx0]; simp
          have hsh : c.w.shape? (c.gh.β h') = some (ty', arr.size) := by simp [World.shape?, e8]
          have hnl : ns.length = es.length := by rw [n2, flatten_len hall', Nat.mul_one]
          have hrun := run_unsafeString_at (P := P) (w := c.w) pt it o.type ty' ht hc (c.gh.β h') of arr.size hsh ns (by intro k; rw [k] at hnl; exact hne hnl.symm) (by omega) (by omega) n3
          rw [hnl, ← n1] at hrun
          obtain ⟨H, R'⟩ := frozen_le (b := c.gh.β h') (of := of) (n := es.length) e8 hne (by omega) ⟨h', e11⟩ R
          intro fr' hw
          simp only [Fr.writes, Option.some.injEq] at hw
          subst hw
          refine ⟨.string ⟨bs.toArray⟩, _, .inl (builtin_exec ho hb hargs fun cs => ?_), H, R', RelT.mkLit (x := .string _) rfl⟩
          simp only [builtin, hat, List.map_cons, List.map_nil, hv, hv2, hn]
          rw [Sem.run_bind, hrun]
          rfl
    · cases h
  · simp [Fr.ask] at h

end
end Go.Dev

/- Pointers to bytes and back; a list that is given out. -/
namespace Go.Dev
open Go

variable {P : Program}

section
variable {e : Ent} {c : Cx} {fr : Fr} {a : Act} {o : Oper}

theorem run_toUnsafe {w : World} {s d t : TypeId} {i : TypeInfo} (hs : P.underlying s = some (.pointer t)) (hd : P.underlying d = some .unsafePointer) (hi : P.info? t = some i) (h0 : i.size ≠ 0) {b of : Nat} {arr : Array Value} {ty : TypeId} {fz : Nat × Nat} (hb : w.heap[b]? = some (.cells arr ty fz)) (hof : of < arr.size) :
    (convert s d (.pointer (some ⟨b, of, none⟩))).run P w = .ok (.pointer (some ⟨b, of, none⟩)) w := by
  have hsh : w.shape? b = some (ty, arr.size) := by simp [World.shape?, hb]
  have hseen : (Conv.seenAt ⟨b, of, none⟩).run P w = .ok ⟨b, of, none⟩ w := by
    simp [Conv.seenAt, viewAt, hsh]
  have hno : ¬ arr.size ≤ of := by omega
  simp [convert, run_underlying hs, run_underlying hd, Conv.unsafePointer, hseen, cellsIn, hsh, run_sizeOf' hi, h0, hno]

theorem run_fromUnsafe {w : World} {s d u : TypeId} {i : TypeInfo} (hs : P.underlying s = some .unsafePointer) (hd : P.underlying d = some (.pointer u)) (hi : P.info? u = some i) (h0 : i.size ≠ 0) {b of : Nat} {arr : Array Value} {ty : TypeId} {fz : Nat × Nat} (hb : w.heap[b]? = some (.cells arr ty fz)) (hl : liesAt P P.depth ty (arr.size / P.cellsOf ty) of u 1 = true) :
    (convert s d (.pointer (some ⟨b, of, none⟩))).run P w = .ok (.pointer (some ⟨b, of, none⟩)) w := by
  have hsh : w.shape? b = some (ty, arr.size) := by simp [World.shape?, hb]
  have hseen : (Conv.seenAt ⟨b, of, none⟩).run P w = .ok ⟨b, of, none⟩ w := by
    simp [Conv.seenAt, viewAt, hsh]
  have hva : (variablesAt ⟨b, of, none⟩ u 1).run P w = .ok true w := by simp [variablesAt, hsh, hl]
  simp [convert, run_underlying hs, run_underlying hd, Conv.unsafePointer, hseen, run_sizeOf' hi, h0, hva]

theorem cellsOf_info {t : TypeId} {i : TypeInfo} (h : P.info? t = some i) : P.cellsOf t = i.size := by simp [Program.cellsOf, h]

theorem snd_pcast (R : RelFr e c fr a.tmps) {s d : TypeId} {x : Operand} {x' : Opd} {al : List (Nat × Nat × Nat)} (ho : o.op = .convert s d x) (hx : cOpd x = some x')
    (hk : (∃ t i, P.underlying s = some (.pointer t) ∧ P.underlying d = some .unsafePointer ∧ P.info? t = some i ∧ i.size ≠ 0 ∧ ∀ q ∈ al, q.2.2 < q.2.1 ∧ q.1 ≠ 0) ∨
      (∃ u i, P.underlying s = some .unsafePointer ∧ P.underlying d = some (.pointer u) ∧ P.info? u = some i ∧ i.size ≠ 0 ∧ ∀ q ∈ al, liesAt P P.depth q.1 (q.2.1 / P.cellsOf q.1) q.2.2 u 1 = true ∧ q.2.2 < q.2.1 ∧ q.1 ≠ 0)) {r : T} {ws : List W} {ls : List Loc}
    (h : fr.ask (match fr.get x' with
    | .one (.ref k off) => .one k.at fun q => if k.fits q.g ∧ (q.ty, q.cs.length, off) ∈ al then some (.one (.ref k off), []) else none
    | _ => .done none) = some (r, ws, ls)) : Snd P e c fr a o r ws := by
  have hcx := get_rel R hx
  split at h
  · rename_i k off hg
    rw [hg] at hcx
    have hr := hcx
    have hcl := hcx.one_live (by simp)
    simp only [RelC] at hcl
    obtain ⟨hle, b, hv, hbl⟩ := hcl
    obtain ⟨q, hq, h⟩ := ask_one h
    split at h
    · rename_i hc
      obtain ⟨hf, hin⟩ := hc
      simp only [Option.some.injEq, Prod.mk.injEq] at h
      obtain ⟨rfl, rfl⟩ := h
      have hlt : off < q.cs.length ∧ q.ty ≠ 0 := by
        rcases hk with ⟨_, _, _, _, _, _, hk⟩ | ⟨_, _, _, _, _, _, hk⟩
        · exact hk _ hin
        · exact (hk _ hin).2
      have hne : q.cs ≠ [] := by intro k0; rw [k0] at hlt; simp at hlt
      obtain ⟨hok, own, hbox⟩ : k.ok c ∧ ∃ own, BoxRel c (k.blk c.gh) own q := by
        cases k with
        | loc h' g =>
          simp only [Key.at, Fr.look] at hq
          simp only [Key.fits, beq_iff_eq] at hf
          refine ⟨?_, _, R.bxs h' q hq hne⟩
          simp only [Key.ok]; rw [R.gen, Fr.ob_loc hq hf.symm]
        | fo j => exact ⟨trivial, _, R.fos j q hq hne⟩
      have hbb := hbl hok
      subst hbb
      obtain ⟨arr, ty, k1, k2, _⟩ := hbox
      obtain ⟨rfl, hsz⟩ := k2 hlt.2
      refine Snd.plain R (v := a.eval x) ?_ hr
      rcases hk with ⟨t, i, h1, h2, h3, h4, _⟩ | ⟨u, i, h1, h2, h3, h4, h5⟩
      · have := run_toUnsafe (P := P) (w := c.w) h1 h2 h3 h4 k1 (of := off) (by omega)
        simp only [execOp, ho, hv, Sem.run_bind, this, Result.andThen_ok]
        rfl
      · have := run_fromUnsafe (P := P) (w := c.w) h1 h2 h3 h4 k1 (of := off) (by rw [hsz]; exact (h5 _ hin).1)
        simp only [execOp, ho, hv, Sem.run_bind, this, Result.andThen_ok]
        rfl
    · cases h
  · simp [Fr.ask] at h

theorem toVs_len : ∀ {cs : List C} {xs : List V}, toVs cs = some xs → xs.length = cs.length
  | [], xs, h => by simp only [toVs, Option.some.injEq] at h; subst h; rfl
  | x :: cs, xs, h => by
    simp only [toVs] at h
    split at h
    · rename_i y ys h1 h2
      simp only [Option.some.injEq] at h
      subst h
      simp [toVs_len h2]
    · cases h

theorem toVs_at : ∀ {cs : List C} {xs : List V}, toVs cs = some xs → ∀ {i : Nat} {y : V}, xs[i]? = some y → ∃ x, cs[i]? = some x ∧ x.toV = some y
  | [], xs, h, i, y, hy => by simp only [toVs, Option.some.injEq] at h; subst h; simp at hy
  | x :: cs, xs, h, i, y, hy => by
    simp only [toVs] at h
    split at h
    · rename_i z zs h1 h2
      simp only [Option.some.injEq] at h
      subst h
      cases i with
      | zero => simp at hy; subst hy; exact ⟨x, rfl, h1⟩
      | succ i => simpa using toVs_at h2 (i := i) (y := y) (by simpa using hy)
    · cases h

theorem chunk_spec (sz : Nat) : ∀ (n : Nat) (l : List V), l.length = n * sz → (chunk sz n l).flatten = l ∧ (chunk sz n l).length = n ∧ ∀ x ∈ chunk sz n l, x.length = sz
  | 0, l, h => by
    have : l = [] := List.length_eq_zero_iff.1 (by omega)
    subst this
    simp [chunk]
  | n + 1, l, h => by
    rw [Nat.add_mul] at h
    obtain ⟨k1, k2, k3⟩ := chunk_spec sz n (l.drop sz) (by simp; omega)
    refine ⟨by simp [chunk, k1], by simp [chunk, k2], fun x hx => ?_⟩
    simp only [chunk, List.mem_cons] at hx
    rcases hx with rfl | hx
    · simp; omega
    · exact k3 x hx

/-- A variable's cells may be looked at from now on, and none of them be written. -/
def Cx.shut (c : Cx) (w : World) (b r : Nat) : Cx := { c with w := w, gh := { c.gh with G := upd c.gh.G b r, ow := upd c.gh.ow b .no } }

theorem CxLe.shut (c : Cx) {w' : World} {b ty r : Nat} {arr : Array Value} {fz fz' : Nat × Nat} (h : c.w.heap[b]? = some (.cells arr ty fz)) (hG : c.gh.G b = 0) (h' : w'.heap[b]? = some (.cells arr ty fz')) (hoth : ∀ i, i ≠ b → w'.heap[i]? = c.w.heap[i]?) : CxLe c (c.shut w' b r) where
  rd := fun i o' v h1 h2 => by
    have hi : i ≠ b := by rintro rfl; omega
    refine ⟨by simp only [Cx.shut]; rw [upd_other _ _ hi]; exact h1, ?_⟩
    simp only [World.cell?] at h2 ⊢
    rw [show (c.shut w' b r).w = w' from rfl, hoth i hi]
    exact h2
  size := fun i ar t f hi => by
    by_cases hib : i = b
    · subst hib
      rw [h] at hi
      simp only [Option.some.injEq, Obj.cells.injEq] at hi
      obtain ⟨rfl, rfl, rfl⟩ := hi
      exact ⟨arr, fz', h', rfl⟩
    · exact ⟨ar, f, (hoth i hib).trans hi, rfl⟩
  gen := fun _ => Nat.le_refl _
  home := fun _ _ => rfl
  tip := fun a' ar t f _ hp h2 h3 => by
    have hib : c.gh.β a' ≠ b := by intro k; rw [k] at hp; omega
    exact ⟨upd_other _ _ hib, by simp only [Cx.shut]; rw [upd_other _ _ hib]; exact h2, ar, f, (hoth _ hib).trans h3, rfl, id⟩
  fo := fun _ _ => rfl
  nfo := Nat.le_refl _

theorem RelFr.shut {tmps : Array Value} (R : RelFr e c fr tmps) {h : Nat} {q : Ob} (hq : fr.bx[h]? = some q) (hne : q.cs ≠ []) {w' : World} {arr : Array Value} {ty : Nat} {fz' : Nat × Nat} (hb : c.w.heap[c.gh.β h]? = some (.cells arr ty (0, 0))) (h' : w'.heap[c.gh.β h]? = some (.cells arr ty fz')) (hoth : ∀ i, i ≠ c.gh.β h → w'.heap[i]? = c.w.heap[i]?)
    (hsz : w'.heap.size = c.w.heap.size) (hos : w'.os = c.w.os) (htape : w'.tape = c.w.tape) (hout : w'.output = c.w.output) :
    CxLe c (c.shut w' (c.gh.β h) q.cs.length) ∧ RelFr e (c.shut w' (c.gh.β h) q.cs.length) { fr with bx := fr.bx.set h { q with cs := [] } } tmps := by
  have hbox := R.bxs h q hq hne
  obtain ⟨arr0, ty0, k1, k2, k3, k4, k5⟩ := hbox
  rw [hb] at k1
  simp only [Option.some.injEq, Obj.cells.injEq] at k1
  obtain ⟨rfl, rfl, _⟩ := k1
  have H := CxLe.shut c (r := q.cs.length) hb k4 h' hoth
  refine ⟨H, ?_⟩
  have hh : h < fr.bx.length := (List.getElem?_eq_some_iff.1 hq).1
  have hkey : ∀ {b' : Nat} {own : Ow} {q' : Ob}, BoxRel c b' own q' → own ≠ .home h → BoxRel (c.shut w' (c.gh.β h) q.cs.length) b' own q' := by
    intro b' own q' hq' hne'
    have : b' ≠ c.gh.β h := by
      obtain ⟨_, _, _, _, _, _, k⟩ := hq'
      rintro rfl
      exact hne' (k.symm.trans k5)
    exact hq'.mono H (hoth _ this) (upd_other _ _ this) (upd_other _ _ this)
  have hno : ∀ b', b' < e.w.heap.size → e.ow b' = .no → b' ≠ c.gh.β h := by
    rintro b' b1 b2 rfl
    have := (R.ows _ b1 b2).1
    rw [k5] at this
    cases this
  refine R.move H ?_ R.nfo rfl (fun a' q' q1 q2 => ?_) (fun i q' q1 q2 => hkey (R.fos i q' q1 q2) (by simp)) (fun b' b1 b2 => hoth _ (hno b' b1 b2)) (fun b' b1 b2 => ⟨upd_other _ _ (hno b' b1 b2), upd_other _ _ (hno b' b1 b2)⟩) (by simp only [Cx.shut]; omega) hos htape hout
  · show c.gen = _
    rw [genOf_set hh _ rfl, R.gen]
    funext b
    simp only [upd]
    split
    · rename_i eb; subst eb; rw [Fr.ob_loc hq rfl]
    · rfl
  · simp only [List.getElem?_set] at q1
    split at q1
    · simp only [if_pos hh, Option.some.injEq] at q1
      subst q1
      exact absurd rfl q2
    · rename_i eb
      exact hkey (R.bxs a' q' q1 q2) (by simp only [ne_eq, Ow.home.injEq]; exact fun k => eb k.symm)

/-- What a variable holds, as a list that may be looked at. -/
theorem shut_rel {h : Nat} {q : Ob} {w' : World} {own : Ow} (hbox : BoxRel c (c.gh.β h) own q) (H : CxLe c (c.shut w' (c.gh.β h) q.cs.length)) (hcell : ∀ i, w'.cell? ⟨c.gh.β h, i, none⟩ = c.w.cell? ⟨c.gh.β h, i, none⟩) {xs : List V} (hx : toVs q.cs = some xs) :
    RelRow (c.shut w' (c.gh.β h) q.cs.length).w (c.shut w' (c.gh.β h) q.cs.length).gh.G (c.gh.β h) 0 xs := by
  obtain ⟨arr, ty, k1, k2, k3, k4, k5⟩ := hbox
  refine RelRow.mk fun i y hy => ?_
  obtain ⟨x, x1, x2⟩ := toVs_at hx hy
  obtain ⟨v, v1, v2⟩ := k3 i x x1
  have hi : i < q.cs.length := (List.getElem?_eq_some_iff.1 x1).1
  refine ⟨v, by simp only [Cx.shut, upd_same]; omega, ?_, RelV.mono H.rd y v (toV_rel v2 x2)⟩
  rw [show (c.shut w' (c.gh.β h) q.cs.length).w = w' from rfl, hcell, Nat.zero_add, cell_of_heap k1]
  exact v1

theorem snd_pub (R : RelFr e c fr a.tmps) {s el u : TypeId} {i : TypeInfo} {x : Operand} {x' : Opd} (ho : o.op = .convert s s x) (hx : cOpd x = some x') (hs : P.underlying s = some (.slice el)) (hel : P.underlying el = some (.int .u8)) (hi : P.info? el = some i) {r : T} {ws : List W} {ls : List Loc}
    (h : fr.ask (match fr.get x' with
    | .one (.osl (.loc h g) sz' 0 len) => .one (.home h) fun q => if q.g = g ∧ sz' = i.size ∧ q.cs.length = len * i.size ∧ len ≠ 0 ∧ q.ty ≠ 0 ∧ i.size ≠ 0 then (toVs q.cs).map fun xs => (.one (.v (.sl (chunk i.size len xs))), [.setb h ⟨q.g + 1, 0, []⟩]) else none
    | _ => .done none) = some (r, ws, ls)) : Snd P e c fr a o r ws := by
  have hcx := get_rel R hx
  split at h
  · rename_i h' g sz' len hg
    rw [hg] at hcx
    have hcl := hcx.one_live (by simp)
    simp only [RelC] at hcl
    obtain ⟨hle, A, cap, hv, hlc, hbk⟩ := hcl
    have hask := ask_one h
    clear h
    obtain ⟨q, hq, h⟩ := hask
    split at h
    · rename_i hc
      obtain ⟨hqg, rfl, hql, hl0, hqt, hsz⟩ := hc
      cases hxs : toVs q.cs with
      | none => simp [hxs] at h
      | some xs =>
        simp only [hxs, Option.map_some, Option.some.injEq, Prod.mk.injEq] at h
        obtain ⟨rfl, rfl⟩ := h
        have hqb : fr.bx[h']? = some q := by simpa only [Fr.look] using hq
        have hgen : c.gen h' = q.g := by rw [R.gen]; exact Fr.ob_loc hqb rfl
        have hqne : q.cs ≠ [] := by
          intro k
          rw [k] at hql
          have := Nat.mul_pos (show 0 < len by omega) (show 0 < i.size by omega)
          simp only [List.length_nil] at hql
          omega
        obtain ⟨b, arr, ty, fz, hA, hb0, hfit0, hbl⟩ := hbk (by omega)
        have hbb := hbl (by simp only [Key.ok]; omega)
        simp only [Key.blk] at hbb
        subst hbb
        subst hA
        have hbox := R.bxs h' q hqb hqne
        have hbox' := hbox
        obtain ⟨arr0, ty0, k1, k2, k3, k4, k5⟩ := hbox
        rw [hb0] at k1
        simp only [Option.some.injEq, Obj.cells.injEq] at k1
        obtain ⟨rfl, rfl, rfl⟩ := k1
        obtain ⟨f1, fz', f2, _⟩ := freeze_heap (w := c.w) (of := arr.size) (n := 1) hb0 (by omega)
        have hsh : c.w.shape? (c.gh.β h') = some (ty, arr.size) := by simp [World.shape?, hb0]
        obtain ⟨H, R'⟩ := R.shut hqb hqne (w' := c.w.freeze ⟨c.gh.β h', arr.size, none⟩ 1) hb0 f2 f1 (by simp [World.freeze]) (by simp [World.freeze]) (by simp [World.freeze]) (by simp [World.freeze])
        have hrow := shut_rel hbox' H (fun i => by rw [cell_of_heap f2, cell_of_heap hb0]) hxs
        intro fr' hw
        obtain ⟨hdl, rfl⟩ := write_setb (writes_one hw)
        have hq1 : Fr.look { fr with bx := fr.bx.set h' { q with cs := [] } } (.home h') = some { q with cs := [] } := by
          simp only [Fr.look, List.getElem?_set_self hdl]
        obtain ⟨_, R''⟩ := RelFr.bump (a := a) R' (cs := []) hq1 (fr' := { fr with bx := fr.bx.set h' ⟨q.g + 1, 0, []⟩ }) (by
          simp only [Fr.write, List.length_set, if_pos hdl, List.set_set]) (fun k => absurd rfl k)
        refine ⟨.slice (some ⟨c.gh.β h', 0, none⟩) len cap, _, .inl ?_, H.trans (CxLe.bump _ h'), R'', RelT.one ?_⟩
        · simp [execOp, ho, convert, run_underlying hs, run_underlying hel, hv, markStringish, hsh]
          rfl
        · obtain ⟨c1, c2, c3⟩ := chunk_spec i.size len xs (by rw [toVs_len hxs, hql])
          simp only [RelC, RelV]
          refine ⟨_, len, cap, i.size, rfl, by rw [c2], hlc, .inr ⟨_, 0, rfl, RelRows.mk c3 ?_⟩⟩
          rw [c1]
          exact hrow
    · cases h
  · simp [Fr.ask] at h

end
end Go.Dev

/- Calls: what is handed over, and what comes back. -/
namespace Go.Dev
open Go

variable {P : Program}

/-- The frame of what is handed over, and no more. -/
def HandF (fo : List Ob) : Fr := ⟨0, [], List.replicate fo.length ⟨0, 0, []⟩, enterF 0 0 fo⟩

mutual
def handed : C → Bool
  | .v _ => true
  | .esl => true
  | .ref (.fo _) _ => true
  | .osl (.fo _) _ _ _ => true
  | .fn _ a b => handedL a && handedL b
  | .dead => true
  | .own _ _ => true
  | _ => false
def handedL : List C → Bool
  | [] => true
  | c :: cs => handed c && handedL cs
end

mutual
def handedT : T → Bool
  | .one c => handed c
  | .agg cs => handedL cs
  | .tup ts => handedTs ts
def handedTs : List T → Bool
  | [] => true
  | t :: ts => handedT t && handedTs ts
end

def handedO (fo : List Ob) : Bool := fo.all fun o => handedL o.cs

/-- What the caller knows behind the call. -/
structure OutLe (c c' : Cx) : Prop where
  rd : RdLe c.w c.gh.G c'.w c'.gh.G
  size : ∀ (b : Nat) (arr : Array Value) (ty : Nat) (fz : Nat × Nat), c.w.heap[b]? = some (.cells arr ty fz) → ∃ arr' fz', c'.w.heap[b]? = some (.cells arr' ty fz') ∧ arr'.size = arr.size
  fo : ∀ i, i < c.nfo → c'.gh.φ i = c.gh.φ i
  nfo : c.nfo ≤ c'.nfo

/-- A function that is there to be entered. -/
def Enters (P : Program) (f : Nat) : Prop := ∃ fn, P.funcs[f]? = some fn ∧ (fn.name == "runtime.NumGoroutine") = false ∧ fn.body.isNone = false

/-- What is told of calls holds of the machine. -/
def Good (P : Program) (call : CallF) : Prop := ∀ (ad : Bool) (f : Nat) (args : List T) (fo : List Ob) (r : T) (fo' : List Ob), call ad f args fo = some (r, fo') → handedTs args = true → handedO fo = true →
  Enters P f ∧ ∀ (c : Cx) (vs : List Value), RelFr ⟨c.w, c.gh.G, c.gh.ow⟩ c (HandF fo) #[] → RelTs c args vs →
    Calls P f ⟨vs⟩ c.w fun en w' => ∃ v c', en = .returned v ∧ c'.w = w' ∧ OutLe c c' ∧ RelFr ⟨c.w, c.gh.G, c.gh.ow⟩ c' (HandF fo') #[] ∧ RelT c' r v ∧ fo'.length = fo.length + (if ad then 1 else 0)

/-! ### Keys -/

theorem mem_dedup {k : Key} : ∀ {l : List Key}, k ∈ dedup l ↔ k ∈ l
  | [] => by simp [dedup]
  | x :: l => by
    simp only [dedup]
    split
    · rename_i h
      rw [mem_dedup, List.mem_cons]
      constructor
      · exact .inr
      · rintro (rfl | h')
        · exact mem_dedup.1 h
        · exact h'
    · rw [List.mem_cons, List.mem_cons, mem_dedup]

theorem nodup_dedup : ∀ l : List Key, (dedup l).Nodup
  | [] => by simp [dedup]
  | x :: l => by
    simp only [dedup]
    split
    · exact nodup_dedup l
    · rename_i h
      exact List.nodup_cons.2 ⟨h, nodup_dedup l⟩

/-- What a request for the variables comes to. -/
theorem gather_done {fr : Fr} {n : Nat} {k : List Key → List Ob → Ans} {t : T} {ws : List W} {ls : List Loc} : ∀ {r : Nat} {ks : List Key}, fr.ask (gather n ks k r) = some (t, ws, ls) →
    ∃ ks' obs, (∀ x ∈ ks, x ∈ ks') ∧ fr.looks (keyLocs n ks') = some obs ∧ dedup (ks' ++ obsKeys obs) = ks' ∧ k ks' obs = some (t, ws)
  | 0, ks, h => by simp [gather, Fr.ask] at h
  | r + 1, ks, h => by
    simp only [gather, Fr.ask] at h
    cases hl : fr.looks (keyLocs n ks) with
    | none => simp [hl] at h
    | some obs =>
      simp only [hl] at h
      split at h
      · cases h
      · rename_i t' ws' ls' ha
        simp only [Option.some.injEq, Prod.mk.injEq] at h
        obtain ⟨rfl, rfl, _⟩ := h
        split at ha
        · rename_i hd
          exact ⟨ks, obs, fun _ hx => hx, hl, hd, (ask_done ha).1⟩
        · obtain ⟨ks', obs', k1, k2, k3, k4⟩ := gather_done ha
          exact ⟨ks', obs', fun x hx => k1 x (mem_dedup.2 (by simp [hx])), k2, k3, k4⟩

theorem looks_at {fr : Fr} {n : Nat} : ∀ {ks : List Key} {obs : List Ob}, fr.looks (keyLocs n ks) = some obs → ∀ {all : List Key} {fo : List Ob}, handIn n all ks obs = some fo →
    fo.length = ks.length ∧ (∀ (i : Nat) (k : Key), ks[i]? = some k → ∃ o t, fr.look k.at = some o ∧ fr.look (.home (tokH n k.at)) = some t ∧ k.fits o.g = true ∧ k.low n = true ∧ fo[i]? = some ⟨0, o.ty, cin all (tokH n k.at) t.g true o.cs⟩ ∧ (∀ x ∈ refsC.refsL o.cs, x ∈ obsKeys obs) ∧ obs[2 * i]? = some o ∧ obs[2 * i + 1]? = some t)
  | [], obs, h, all, fo, hh => by
    simp only [keyLocs, Fr.looks, Option.some.injEq] at h
    subst h
    simp only [handIn, Option.some.injEq] at hh
    subst hh
    exact ⟨rfl, by simp⟩
  | k :: ks, obs, h, all, fo, hh => by
    simp only [keyLocs, Fr.looks] at h
    cases h1 : fr.look k.at with
    | none => simp [h1] at h
    | some o =>
      cases h2 : fr.look (.home (tokH n k.at)) with
      | none => simp [h1, h2] at h
      | some t =>
        cases h3 : fr.looks (keyLocs n ks) with
        | none => simp [h1, h2, h3] at h
        | some obs' =>
          simp only [h1, h2, h3, Option.some.injEq] at h
          subst h
          simp only [handIn] at hh
          split at hh
          · rename_i hc
            simp only [Bool.and_eq_true] at hc
            cases h4 : handIn n all ks obs' with
            | none => simp [h4] at hh
            | some fo' =>
              simp only [h4, Option.map_some, Option.some.injEq] at hh
              subst hh
              obtain ⟨k1, k2⟩ := looks_at h3 h4
              refine ⟨by simp [k1], fun i k' hi => ?_⟩
              cases i with
              | zero =>
                simp at hi
                subst hi
                exact ⟨o, t, h1, h2, hc.1, hc.2, rfl, fun x hx => by simp [obsKeys, hx], rfl, rfl⟩
              | succ i =>
                obtain ⟨o', t', l1, l2, l3, l4, l5, l6, l7, l8⟩ := k2 i k' (by simpa using hi)
                refine ⟨o', t', l1, l2, l3, l4, by simpa using l5, fun x hx => by simp only [obsKeys, List.mem_append]; exact .inr (l6 x hx), ?_, ?_⟩
                · rw [show 2 * (i + 1) = 2 * i + 1 + 1 by omega]; simpa using l7
                · rw [show 2 * (i + 1) + 1 = 2 * i + 1 + 1 + 1 by omega]; simpa using l8
          · cases hh

end Go.Dev

/- Calls: the entry. -/
namespace Go.Dev
open Go

variable {P : Program}

def Key.own : Key → Ow
  | .loc h _ => .home h
  | .fo j => .fo j

theorem RelFr.keyBox {e : Ent} {c : Cx} {fr : Fr} {tmps : Array Value} (R : RelFr e c fr tmps) {k : Key} {o : Ob} (h : fr.look k.at = some o) (hf : k.fits o.g = true) (hne : o.cs ≠ []) : k.ok c ∧ BoxRel c (k.blk c.gh) k.own o := by
  cases k with
  | loc h' g =>
    simp only [Key.at, Fr.look] at h
    simp only [Key.fits, beq_iff_eq] at hf
    refine ⟨?_, R.bxs h' o h hne⟩
    simp only [Key.ok]; rw [R.gen, Fr.ob_loc h hf.symm]
  | fo j => exact ⟨trivial, R.fos j o h hne⟩

theorem key_ok {e : Ent} {c : Cx} {fr : Fr} {tmps : Array Value} (R : RelFr e c fr tmps) {k : Key} {o : Ob} (h : fr.look k.at = some o) (hf : k.fits o.g = true) : k.ok c ∧ k.le c := by
  cases k with
  | loc h' g =>
    simp only [Key.at, Fr.look] at h
    simp only [Key.fits, beq_iff_eq] at hf
    simp only [Key.ok, Key.le]
    rw [R.gen, Fr.ob_loc h hf.symm]
    exact ⟨rfl, Nat.le_refl _⟩
  | fo j =>
    refine ⟨trivial, ?_⟩
    simp only [Key.at, Fr.look] at h
    simp only [Key.le]
    rw [R.nfo]
    exact (List.getElem?_eq_some_iff.1 h).1

theorem key_inj {fr : Fr} {k k' : Key} {o o' : Ob} (h : fr.look k.at = some o) (h' : fr.look k'.at = some o') (hf : k.fits o.g = true) (hf' : k'.fits o'.g = true) (he : k.at = k'.at) : k = k' := by
  rw [he, h'] at h
  cases h
  cases k <;> cases k' <;> simp only [Key.at, Loc.home.injEq, Loc.fo.injEq, reduceCtorEq] at he
  · simp only [Key.fits, beq_iff_eq] at hf hf'
    subst he; subst hf; subst hf'; rfl
  · subst he; rfl

theorem own_at {k k' : Key} (h : k.own = k'.own) : k.at = k'.at := by
  cases k <;> cases k' <;> simp_all [Key.own, Key.at]

theorem tok_inj {n : Nat} {k k' : Key} (hk : k.low n = true) (hk' : k'.low n = true) (h : tokH n k.at = tokH n k'.at) : k.at = k'.at := by
  cases k <;> cases k' <;> simp only [Key.at, tokH, Key.low, decide_eq_true_eq] at *
  · congr 1; omega
  · omega
  · omega
  · congr 1; omega

/-- What is handed over at a call. -/
structure Handing (c : Cx) (fr : Fr) (n : Nat) (ks : List Key) (fo : List Ob) : Prop where
  nd : ks.Nodup
  len : fo.length = ks.length
  at' : ∀ (i : Nat) (k : Key), ks[i]? = some k → ∃ o t, fr.look k.at = some o ∧ fr.look (.home (tokH n k.at)) = some t ∧ k.fits o.g = true ∧ k.low n = true ∧ fo[i]? = some ⟨0, o.ty, cin ks (tokH n k.at) t.g true o.cs⟩ ∧ (∀ x ∈ refsC.refsL o.cs, x ∈ ks)

theorem Handing.mk' {c : Cx} {fr : Fr} {n : Nat} {ks : List Key} {obs fo : List Ob} (hl : fr.looks (keyLocs n ks) = some obs) (hd : dedup (ks ++ obsKeys obs) = ks) (hh : handIn n ks ks obs = some fo) : Handing c fr n ks fo := by
  obtain ⟨k1, k2⟩ := looks_at hl hh
  refine ⟨by rw [← hd]; exact nodup_dedup _, k1, fun i k hi => ?_⟩
  obtain ⟨o, t, l1, l2, l3, l4, l5, l6, _, _⟩ := k2 i k hi
  exact ⟨o, t, l1, l2, l3, l4, l5, fun x hx => by rw [← hd]; exact mem_dedup.2 (by simp [l6 x hx])⟩

open Classical in
/-- Whose a block is for the callee. -/
noncomputable def hOw (c : Cx) (fr : Fr) (n : Nat) (ks : List Key) (b : Nat) : Ow :=
  if h : ∃ i : Nat, ∃ (k : Key) (o : Ob), ks[i]? = some k ∧ fr.look k.at = some o ∧ o.cs ≠ [] ∧ b = k.blk c.gh then .fo h.choose
  else if h : ∃ i : Nat, ∃ k : Key, ks[i]? = some k ∧ b = c.gh.β (tokH n k.at) ∧ c.gh.ow b = .home (tokH n k.at) ∧ 0 < c.gh.G b then .home h.choose
  else .no

noncomputable def hCx (c : Cx) (fr : Fr) (n : Nat) (ks : List Key) : Cx where
  w := c.w
  gen := fun _ => 0
  nfo := ks.length
  gh := {
    β := fun i => match ks[i]? with | some k => c.gh.β (tokH n k.at) | none => 0
    φ := fun i => match ks[i]? with | some k => k.blk c.gh | none => 0
    G := c.gh.G
    ow := hOw c fr n ks }

section
variable {e : Ent} {c : Cx} {fr : Fr} {tmps : Array Value} {n : Nat} {ks : List Key} {fo : List Ob}

theorem hOw_var (R : RelFr e c fr tmps) (H : Handing c fr n ks fo) {i : Nat} {k : Key} {o : Ob} (hi : ks[i]? = some k) (ho : fr.look k.at = some o) (hne : o.cs ≠ []) : hOw c fr n ks (k.blk c.gh) = .fo i := by
  have hex : ∃ i : Nat, ∃ (k' : Key) (o : Ob), ks[i]? = some k' ∧ fr.look k'.at = some o ∧ o.cs ≠ [] ∧ k.blk c.gh = k'.blk c.gh := ⟨i, k, o, hi, ho, hne, rfl⟩
  rw [hOw, dif_pos hex]
  congr 1
  obtain ⟨k', o', h1, h2, h3, h4⟩ := hex.choose_spec
  obtain ⟨o1, t1, a1, a2, a3, a4, _⟩ := H.at' i k hi
  obtain ⟨o2, t2, b1, b2, b3, b4, _⟩ := H.at' _ k' h1
  rw [ho] at a1; cases a1
  rw [h2] at b1; cases b1
  obtain ⟨_, x1⟩ := R.keyBox ho a3 hne
  obtain ⟨_, x2⟩ := R.keyBox h2 b3 h3
  obtain ⟨_, _, _, _, _, _, y1⟩ := x1
  obtain ⟨_, _, _, _, _, _, y2⟩ := x2
  rw [← h4, y1] at y2
  have := key_inj ho h2 a3 b3 (own_at y2)
  subst this
  have hlt := (List.getElem?_eq_some_iff.1 hi).1
  exact ((List.getElem?_inj hlt H.nd).1 (by rw [hi, h1])).symm

theorem hOw_right (R : RelFr e c fr tmps) (H : Handing c fr n ks fo) {i : Nat} {k : Key} (hi : ks[i]? = some k) (hw : c.gh.ow (c.gh.β (tokH n k.at)) = .home (tokH n k.at)) (hG : 0 < c.gh.G (c.gh.β (tokH n k.at))) : hOw c fr n ks (c.gh.β (tokH n k.at)) = .home i := by
  have hno : ¬ ∃ i : Nat, ∃ (k' : Key) (o : Ob), ks[i]? = some k' ∧ fr.look k'.at = some o ∧ o.cs ≠ [] ∧ c.gh.β (tokH n k.at) = k'.blk c.gh := by
    rintro ⟨j, k', o', h1, h2, h3, h4⟩
    obtain ⟨o2, t2, b1, b2, b3, b4, _⟩ := H.at' _ k' h1
    rw [h2] at b1; cases b1
    obtain ⟨_, x2⟩ := R.keyBox h2 b3 h3
    obtain ⟨_, _, _, _, _, y2, _⟩ := x2
    rw [h4, y2] at hG
    omega
  have hex : ∃ i : Nat, ∃ k' : Key, ks[i]? = some k' ∧ c.gh.β (tokH n k.at) = c.gh.β (tokH n k'.at) ∧ c.gh.ow (c.gh.β (tokH n k.at)) = .home (tokH n k'.at) ∧ 0 < c.gh.G (c.gh.β (tokH n k.at)) := ⟨i, k, hi, rfl, hw, hG⟩
  rw [hOw, dif_neg hno, dif_pos hex]
  congr 1
  obtain ⟨k', h1, h2, h3, h4⟩ := hex.choose_spec
  obtain ⟨o1, t1, a1, a2, a3, a4, _⟩ := H.at' i k hi
  obtain ⟨o2, t2, b1, b2, b3, b4, _⟩ := H.at' _ k' h1
  rw [hw] at h3
  simp only [Ow.home.injEq] at h3
  have := key_inj a1 b1 a3 b3 (tok_inj a4 b4 h3)
  subst this
  have hlt := (List.getElem?_eq_some_iff.1 hi).1
  exact ((List.getElem?_inj hlt H.nd).1 (by rw [hi, h1])).symm

theorem hOw_no {b : Nat} (h1 : ∀ (i : Nat) (k : Key) (o : Ob), ks[i]? = some k → fr.look k.at = some o → o.cs ≠ [] → b ≠ k.blk c.gh) (h2 : ∀ (i : Nat) (k : Key), ks[i]? = some k → b = c.gh.β (tokH n k.at) → c.gh.ow b = .home (tokH n k.at) → 0 < c.gh.G b → False) : hOw c fr n ks b = .no := by
  rw [hOw, dif_neg, dif_neg]
  · rintro ⟨i, k, x1, x2, x3, x4⟩
    exact h2 i k x1 x2 x3 x4
  · rintro ⟨i, k, o, x1, x2, x3, x4⟩
    exact h1 i k o x1 x2 x3 x4

/-- What it is, if it is not no one's. -/
theorem hOw_cases (b : Nat) : hOw c fr n ks b = .no ∨ (∃ (i : Nat) (k : Key) (o : Ob), ks[i]? = some k ∧ fr.look k.at = some o ∧ o.cs ≠ [] ∧ b = k.blk c.gh) ∨ ∃ (i : Nat) (k : Key), ks[i]? = some k ∧ b = c.gh.β (tokH n k.at) ∧ c.gh.ow b = .home (tokH n k.at) ∧ 0 < c.gh.G b := by
  by_cases h1 : ∃ (i : Nat) (k : Key) (o : Ob), ks[i]? = some k ∧ fr.look k.at = some o ∧ o.cs ≠ [] ∧ b = k.blk c.gh
  · exact .inr (.inl h1)
  · by_cases h2 : ∃ (i : Nat) (k : Key), ks[i]? = some k ∧ b = c.gh.β (tokH n k.at) ∧ c.gh.ow b = .home (tokH n k.at) ∧ 0 < c.gh.G b
    · exact .inr (.inr h2)
    · refine .inl ?_
      rw [hOw, dif_neg h1, dif_neg h2]

theorem idx_some {k : Key} (h : k ∈ ks) : ∃ i, ks.idxOf? k = some i ∧ ks[i]? = some k := by
  cases hi : ks.idxOf? k with
  | none => exact absurd h (by simpa [List.idxOf?_eq_none_iff] using hi)
  | some i => exact ⟨i, rfl, by
      have := List.idxOf?_eq_some_iff.1 hi
      obtain ⟨h1, h2, _⟩ := this
      rw [List.getElem?_eq_getElem h1]
      simpa using h2⟩

mutual
theorem tr_rel (R : RelFr e c fr tmps) (H : Handing c fr n ks fo) : ∀ (x : C) (v : Value), RelC c x v → (∀ k ∈ refsC x, k ∈ ks) → RelC (hCx c fr n ks) (trC ks x) v ∧ handed (trC ks x) = true
  | .v x, v, h, _ => by simp only [RelC, trC, handed] at h ⊢; exact ⟨h, trivial⟩
  | .esl, v, h, _ => by
    simp only [RelC, trC, handed, RelV] at h ⊢
    obtain ⟨A, rfl⟩ := h
    exact ⟨⟨A, 0, 0, 0, rfl, rfl, Nat.le_refl _, .inl trivial⟩, trivial⟩
  | .lin _ _ _ es, v, h, _ => by simp only [RelC, trC, handed] at h ⊢; exact ⟨h.1, trivial⟩
  | .osl k sz off len, v, h, hk => by
    obtain ⟨i, i1, i2⟩ := idx_some (hk k (by simp [refsC]))
    obtain ⟨o, t, a1, a2, a3, a4, _⟩ := H.at' i k i2
    have hok := (key_ok R a1 a3).1
    simp only [RelC] at h
    obtain ⟨_, A, cap, r1, r2, r3⟩ := h
    simp only [trC, i1, RelC, handed, and_true]
    refine ⟨(List.getElem?_eq_some_iff.1 i2).1, A, cap, r1, r2, fun hp => ?_⟩
    obtain ⟨b, arr, ty, fz, s1, s2, s3, s4⟩ := r3 hp
    exact ⟨b, arr, ty, fz, s1, s2, s3, fun _ => by simp only [Key.blk, hCx, i2]; exact s4 hok⟩
  | .ref k off, v, h, hk => by
    obtain ⟨i, i1, i2⟩ := idx_some (hk k (by simp [refsC]))
    obtain ⟨o, t, a1, a2, a3, a4, _⟩ := H.at' i k i2
    have hok := (key_ok R a1 a3).1
    simp only [RelC] at h
    obtain ⟨_, b, r1, r2⟩ := h
    simp only [trC, i1, RelC, handed, and_true]
    exact ⟨(List.getElem?_eq_some_iff.1 i2).1, b, r1, fun _ => by simp only [Key.blk, hCx, i2]; exact r2 hok⟩
  | .fn f x y, v, h, hk => by
    simp only [RelC] at h
    obtain ⟨fa, fb, rfl, h1, h2⟩ := h
    have k1 := trL_rel R H x fa h1 (fun k hx => hk k (by simp [refsC, hx]))
    have k2 := trL_rel R H y fb h2 (fun k hx => hk k (by simp [refsC, hx]))
    simp only [trC, RelC, handed, Bool.and_eq_true]
    exact ⟨⟨fa, fb, rfl, k1.1, k2.1⟩, k1.2, k2.2⟩
  | .own _ _, v, h, _ => by simp only [RelC, trC, handed] at h ⊢; exact ⟨h, trivial⟩
  | .sd _ _ _ _, v, h, _ => by simp only [RelC, trC, handed] at h ⊢; exact ⟨h.1, trivial⟩
  | .dead, v, h, _ => by simp only [RelC, trC, handed] at h ⊢; exact ⟨h, trivial⟩
theorem trL_rel (R : RelFr e c fr tmps) (H : Handing c fr n ks fo) : ∀ (xs : List C) (vs : List Value), RelCs c xs vs → (∀ k ∈ refsC.refsL xs, k ∈ ks) → RelCs (hCx c fr n ks) (trC.trL ks xs) vs ∧ handedL (trC.trL ks xs) = true
  | [], [], _, _ => by simp [trC.trL, RelCs, handedL]
  | x :: xs, v :: vs, h, hk => by
    simp only [RelCs] at h
    have k1 := tr_rel R H x v h.1 (fun k hx => hk k (by simp [refsC.refsL, hx]))
    have k2 := trL_rel R H xs vs h.2 (fun k hx => hk k (by simp [refsC.refsL, hx]))
    simp only [trC.trL, RelCs, handedL, Bool.and_eq_true]
    exact ⟨⟨k1.1, k2.1⟩, k1.2, k2.2⟩
  | [], _ :: _, h, _ => by simp [RelCs] at h
  | _ :: _, [], h, _ => by simp [RelCs] at h
end

theorem trT_rel (R : RelFr e c fr tmps) (H : Handing c fr n ks fo) : ∀ (x : T) (v : Value), RelT c x v → (∀ k ∈ refsT x, k ∈ ks) → RelT (hCx c fr n ks) (trT ks x) v ∧ handedT (trT ks x) = true
  | .one x, v, h, hk => by
    by_cases hx : x = .dead
    · subst hx; simp [trT, trC, RelT, handedT, handed]
    · have := tr_rel R H x v (h.one_live hx) (fun k hkk => hk k hkk)
      exact ⟨RelT.one this.1, this.2⟩
  | .agg cs, v, h, hk => by
    simp only [RelT] at h
    obtain ⟨arr, rfl, r⟩ := h
    have := trL_rel R H cs arr r (fun k hkk => hk k hkk)
    simp only [trT, RelT, handedT]
    exact ⟨⟨arr, rfl, this.1⟩, this.2⟩
  | .tup _, v, _, _ => by simp [trT, RelT, handedT, handed]

theorem trTs_rel (R : RelFr e c fr tmps) (H : Handing c fr n ks fo) : ∀ (xs : List T) (vs : List Value), RelTs c xs vs → (∀ k ∈ xs.flatMap refsT, k ∈ ks) → RelTs (hCx c fr n ks) (xs.map (trT ks)) vs ∧ handedTs (xs.map (trT ks)) = true
  | [], [], _, _ => by simp [RelTs, handedTs]
  | x :: xs, v :: vs, h, hk => by
    simp only [RelTs] at h
    have k1 := trT_rel R H x v h.1 (fun k hx => hk k (by simp [hx]))
    have k2 := trTs_rel R H xs vs h.2 (fun k hx => hk k (by simp only [List.flatMap_cons, List.mem_append]; exact .inr hx))
    simp only [List.map_cons, RelTs, handedTs, Bool.and_eq_true]
    exact ⟨⟨k1.1, k2.1⟩, k1.2, k2.2⟩
  | [], _ :: _, h, _ => by simp [RelTs] at h
  | _ :: _, [], h, _ => by simp [RelTs] at h

/-- The cells of a variable that is handed over. -/
theorem cin_rel (R : RelFr e c fr tmps) (H : Handing c fr n ks fo) {i : Nat} {k : Key} {t : Ob} (hi : ks[i]? = some k) (ht : fr.look (.home (tokH n k.at)) = some t) : ∀ (b : Bool) (xs : List C), (∀ x ∈ refsC.refsL xs, x ∈ ks) →
    ∀ (j : Nat) (y : C), (enterO i (cin ks (tokH n k.at) t.g b xs))[j]? = some y → ∃ x, xs[j]? = some x ∧ ∀ v, RelC c x v → RelC (hCx c fr n ks) y v
  | b, [], _, j, y, hy => by simp [cin, enterO] at hy
  | b, x :: xs, hk, j, y, hy => by
    have hkx : ∀ q ∈ refsC x, q ∈ ks := fun q hq => hk q (by simp [refsC.refsL, hq])
    have hkxs : ∀ q ∈ refsC.refsL xs, q ∈ ks := fun q hq => hk q (by simp [refsC.refsL, hq])
    -- each cell leads to one cell
    have key : ∃ y' b', enterO i (cin ks (tokH n k.at) t.g b (x :: xs)) = y' :: enterO i (cin ks (tokH n k.at) t.g b' xs) ∧ ∀ v, RelC c x v → RelC (hCx c fr n ks) y' v := by
      have plain : ∀ z : C, cin ks (tokH n k.at) t.g b (z :: xs) = trC ks z :: cin ks (tokH n k.at) t.g b xs → (∀ ty es, trC ks z ≠ .own ty es) → (∀ q ∈ refsC z, q ∈ ks) → ∃ y' b', enterO i (cin ks (tokH n k.at) t.g b (z :: xs)) = y' :: enterO i (cin ks (tokH n k.at) t.g b' xs) ∧ ∀ v, RelC c z v → RelC (hCx c fr n ks) y' v := by
        intro z hz hno hkz
        refine ⟨trC ks z, b, ?_, fun v hv => (tr_rel R H z v hv hkz).1⟩
        rw [hz]
        cases hc : trC ks z <;> first | rfl | exact absurd hc (hno _ _)
      cases x with
      | v z => exact plain _ (by cases b <;> rfl) (by simp [trC]) hkx
      | esl =>
        refine ⟨.esl, b, by cases b <;> rfl, fun v hv => ?_⟩
        simpa only [RelC] using hv
      | lin h' g' ty es =>
        cases b with
        | false => exact plain _ rfl (by simp [trC]) hkx
        | true =>
          by_cases hc : h' = tokH n k.at ∧ g' = t.g
          · refine ⟨.lin i 0 ty es, false, by simp only [cin, if_pos hc, enterO, Nat.mul_zero, Nat.zero_add], fun v hv => ?_⟩
            obtain ⟨rfl, rfl⟩ := hc
            simp only [RelC] at hv ⊢
            obtain ⟨h1, h2, h3⟩ := hv
            refine ⟨h1, Nat.le_refl _, fun _ => ?_⟩
            have hg : c.gen (tokH n k.at) = t.g := by simp only [Fr.look] at ht; rw [R.gen]; exact Fr.ob_loc ht rfl
            obtain ⟨o, len, cap, arr, fz, sz, e1, e2, e3, e4, e5, e6, e7, e8, e9, e10, e11⟩ := h3 hg.symm
            have hpos : 0 < c.gh.G (c.gh.β (tokH n k.at)) := by
              rw [e7]
              have : 0 < es.length := List.length_pos_iff.2 e2
              have := Nat.mul_pos (show 0 < len by omega) e4
              omega
            have hβ : (hCx c fr n ks).gh.β i = c.gh.β (tokH n k.at) := by simp only [hCx, hi]
            refine ⟨o, len, cap, arr, fz, sz, by rw [hβ]; exact e1, e2, e3, e4, e5, e6, by rw [hβ]; exact e7, by rw [hβ]; exact e8, e9, e10, by rw [hβ]; exact hOw_right R H hi e11 hpos⟩
          · refine ⟨.v (.sl es), true, by simp only [cin, if_neg hc, enterO], fun v hv => ?_⟩
            simp only [RelC] at hv ⊢
            exact hv.1
      | osl k' sz off len => exact plain _ (by cases b <;> rfl) (fun _ _ => by simp only [trC]; split <;> simp) hkx
      | ref k' off => exact plain _ (by cases b <;> rfl) (fun _ _ => by simp only [trC]; split <;> simp) hkx
      | fn f x' y' => exact plain _ (by cases b <;> rfl) (by simp [trC]) hkx
      | own ty es => exact plain _ (by cases b <;> rfl) (by simp [trC]) hkx
      | sd _ _ _ _ => exact plain _ (by cases b <;> rfl) (by simp [trC]) hkx
      | dead => exact plain _ (by cases b <;> rfl) (by simp [trC]) hkx
    obtain ⟨y', b', hyy, hrel⟩ := key
    rw [hyy] at hy
    cases j with
    | zero => simp at hy; subst hy; exact ⟨x, rfl, hrel⟩
    | succ j => simpa using cin_rel R H hi ht b' xs hkxs j y (by simpa using hy)

theorem enterO_len (h : Nat) : ∀ xs : List C, (enterO h xs).length = xs.length
  | [] => rfl
  | x :: xs => by cases x <;> simp [enterO, enterO_len h xs]

theorem cin_len (ks : List Key) (h g : Nat) : ∀ (b : Bool) (xs : List C), (cin ks h g b xs).length = xs.length
  | b, [] => by simp [cin]
  | b, x :: xs => by
    cases x with
    | lin h' g' ty es =>
      cases b with
      | false => simp [cin, cin_len ks h g false xs]
      | true =>
        simp only [cin]
        split <;> simp [cin_len ks h g _ xs]
    | _ => cases b <;> simp [cin, cin_len ks h g _ xs]

theorem cback_len (ks : List Key) (h g : Nat) : ∀ xs : List C, (cback ks h g xs).length = xs.length
  | [] => rfl
  | x :: xs => by cases x <;> simp [cback, cback_len ks h g xs]

theorem enterF_len (n : Nat) : ∀ (s : Nat) (fo : List Ob), (enterF n s fo).length = fo.length
  | _, [] => rfl
  | s, o :: fo => by simp [enterF, enterF_len n (s + 1) fo]

theorem enterF_at (n : Nat) : ∀ (s : Nat) (fo : List Ob) (i : Nat), (enterF n s fo)[i]? = (fo[i]?).map fun o => ⟨0, o.ty, enterO (2 * n + (s + i)) o.cs⟩
  | _, [], i => by simp [enterF]
  | s, o :: fo, i => by
    cases i with
    | zero => simp [enterF]
    | succ i => simp only [enterF, List.getElem?_cons_succ, enterF_at n (s + 1) fo i, show s + 1 + i = s + (i + 1) by omega]

theorem HandF_gen (fo : List Ob) : genOf (HandF fo) = fun _ => 0 := by
  funext h
  simp only [genOf, HandF, List.getElem?_replicate]
  split <;> rfl

theorem HandF_bx {fo : List Ob} {h : Nat} {o : Ob} (k : (HandF fo).bx[h]? = some o) : o.cs = [] := by
  simp only [HandF, List.getElem?_replicate] at k
  split at k
  · simp only [Option.some.injEq] at k; rw [← k]
  · cases k

theorem HandF_fo {fo : List Ob} {i : Nat} {o : Ob} (k : (HandF fo).fo[i]? = some o) : ∃ q, fo[i]? = some q ∧ o = ⟨0, q.ty, enterO i q.cs⟩ := by
  simp only [HandF, enterF_at] at k
  cases hq : fo[i]? with
  | none => simp [hq] at k
  | some q => simp only [hq, Option.map_some, Option.some.injEq, Nat.mul_zero, Nat.zero_add] at k; exact ⟨q, rfl, k.symm⟩

theorem hand_entry (R : RelFr e c fr tmps) (H : Handing c fr n ks fo) : RelFr ⟨c.w, c.gh.G, hOw c fr n ks⟩ (hCx c fr n ks) (HandF fo) #[] where
  gen := by rw [HandF_gen]; rfl
  nfo := by simp only [HandF, enterF_len, hCx]; exact H.len.symm
  tsz := rfl
  tms := fun t x h => by simp [HandF] at h
  bxs := fun h o h1 h2 => absurd (HandF_bx h1) h2
  fos := fun i o h1 h2 => by
    obtain ⟨q, q1, rfl⟩ := HandF_fo h1
    have hi : i < ks.length := by rw [← H.len]; exact (List.getElem?_eq_some_iff.1 q1).1
    have hk := List.getElem?_eq_getElem hi
    obtain ⟨o', t, a1, a2, a3, a4, a5, a6⟩ := H.at' i _ hk
    rw [q1, Option.some.injEq] at a5
    subst a5
    have hne : o'.cs ≠ [] := by
      intro k0
      refine h2 (List.length_eq_zero_iff.1 ?_)
      simp only [enterO_len, cin_len, k0, List.length_nil]
    obtain ⟨_, arr, ty, k1, k2, k3, k4, k5⟩ := R.keyBox a1 a3 hne
    have hφ : (hCx c fr n ks).gh.φ i = (ks[i]).blk c.gh := by simp only [hCx, hk]
    refine ⟨arr, ty, by rw [hφ]; exact k1, fun k => ?_, fun j y hy => ?_, by rw [hφ]; exact k4, by rw [hφ]; exact hOw_var R H hk a1 hne⟩
    · simp only [enterO_len, cin_len]; exact k2 k
    · obtain ⟨x, x1, x2⟩ := cin_rel R H hk a2 true o'.cs a6 j y hy
      obtain ⟨v, v1, v2⟩ := k3 j x x1
      exact ⟨v, v1, x2 v v2⟩
  old := fun _ _ _ => rfl
  ows := fun _ _ h => ⟨h, rfl⟩
  size := Nat.le_refl _
  os := rfl
  tape := rfl
  output := rfl

end
end Go.Dev

/- Calls: the return. -/
namespace Go.Dev
open Go

variable {P : Program}

/-! ### What is written behind the call -/

theorem look_len {fr : Fr} {l : Loc} {o : Ob} (h : fr.look l = some o) : (match l with | .home h => h < fr.bx.length | .fo i => i < fr.fo.length) := by
  cases l <;> simp only [Fr.look] at h <;> exact (List.getElem?_eq_some_iff.1 h).1

theorem write_cells_all {fr fr' : Fr} {l : Loc} {o : Ob} {cs : List C} (h : fr.look l = some o) (hl : o.cs.length = cs.length) (hw : fr.write (.cells l 0 cs) = some fr') :
    fr'.n = fr.n ∧ fr'.tm = fr.tm ∧ fr'.bx.length = fr.bx.length ∧ fr'.fo.length = fr.fo.length ∧ fr'.look l = some ⟨o.g, o.ty, cs⟩ ∧ ∀ m, m ≠ l → fr'.look m = fr.look m := by
  have hs : splice o.cs 0 cs = cs := by simp only [splice, List.take_zero, List.nil_append, Nat.zero_add, ← hl, List.drop_length, List.append_nil]
  cases l with
  | home a =>
    simp only [Fr.look] at h
    simp only [Fr.write, h] at hw
    split at hw
    · simp only [Option.some.injEq] at hw
      subst hw
      refine ⟨rfl, rfl, by simp, rfl, ?_, fun m hm => ?_⟩
      · simp only [Fr.look, hs, List.getElem?_set_self (List.getElem?_eq_some_iff.1 h).1]
      · cases m with
        | home b => simp only [Fr.look]; rw [List.getElem?_set_ne (fun k => hm (by rw [k]))]
        | fo b => rfl
    · cases hw
  | fo a =>
    simp only [Fr.look] at h
    simp only [Fr.write, h] at hw
    split at hw
    · simp only [Option.some.injEq] at hw
      subst hw
      refine ⟨rfl, rfl, rfl, by simp, ?_, fun m hm => ?_⟩
      · simp only [Fr.look, hs, List.getElem?_set_self (List.getElem?_eq_some_iff.1 h).1]
      · cases m with
        | home b => rfl
        | fo b => simp only [Fr.look]; rw [List.getElem?_set_ne (fun k => hm (by rw [k]))]
    · cases hw

theorem write_setb_all {fr fr' : Fr} {h : Nat} {q : Ob} (hw : fr.write (.setb h q) = some fr') :
    fr'.n = fr.n ∧ fr'.tm = fr.tm ∧ fr'.bx.length = fr.bx.length ∧ fr'.fo.length = fr.fo.length ∧ fr'.look (.home h) = some q ∧ ∀ m, m ≠ .home h → fr'.look m = fr.look m := by
  obtain ⟨hd, rfl⟩ := write_setb hw
  refine ⟨rfl, rfl, by simp, rfl, by simp only [Fr.look, List.getElem?_set_self hd], fun m hm => ?_⟩
  cases m with
  | home b => simp only [Fr.look]; rw [List.getElem?_set_ne (fun k => hm (by rw [k]))]
  | fo b => rfl

theorem looks_congr {fr fr' : Fr} : ∀ {ls : List Loc}, (∀ l ∈ ls, fr'.look l = fr.look l) → fr'.looks ls = fr.looks ls
  | [], _ => rfl
  | l :: ls, h => by
    simp only [Fr.looks]
    rw [h l (by simp), looks_congr (fun m hm => h m (by simp [hm]))]

theorem mem_keyLocs {n : Nat} : ∀ {ks : List Key} {l : Loc}, l ∈ keyLocs n ks → ∃ k ∈ ks, l = k.at ∨ l = .home (tokH n k.at)
  | [], _, h => by simp [keyLocs] at h
  | k :: ks, l, h => by
    simp only [keyLocs, List.mem_cons] at h
    rcases h with rfl | rfl | h
    · exact ⟨k, by simp, .inl rfl⟩
    · exact ⟨k, by simp, .inr rfl⟩
    · obtain ⟨k', h1, h2⟩ := mem_keyLocs h
      exact ⟨k', by simp [h1], h2⟩

theorem low_tok {n : Nat} {k k' : Key} (h : k.low n = true) : k.at ≠ .home (tokH n k'.at) := by
  cases k <;> cases k' <;> simp only [Key.at, tokH, Key.low, decide_eq_true_eq, ne_eq, Loc.home.injEq, reduceCtorEq, not_false_eq_true] at *
  · omega
  · omega

theorem back_writes {n : Nat} {all : List Key} : ∀ {ks : List Key} {obs xs : List Ob} {ws : List W} {fr fr' : Fr}, handBack n all ks obs xs = some ws → fr.looks (keyLocs n ks) = some obs →
    (∀ k ∈ ks, k.low n = true) → ks.Pairwise (fun k k' => k.at ≠ k'.at) → fr.writes ws = some fr' →
    (fr'.n = fr.n ∧ fr'.tm = fr.tm ∧ fr'.bx.length = fr.bx.length ∧ fr'.fo.length = fr.fo.length) ∧ (∀ l, (∀ k ∈ ks, l ≠ k.at ∧ l ≠ .home (tokH n k.at)) → fr'.look l = fr.look l) ∧
    ∀ (i : Nat) (k : Key), ks[i]? = some k → ∃ o t x, fr.look k.at = some o ∧ fr.look (.home (tokH n k.at)) = some t ∧ xs[i]? = some x ∧ o.cs.length = x.cs.length ∧ fr'.look k.at = some ⟨o.g, o.ty, cback all (tokH n k.at) (t.g + 1) x.cs⟩ ∧ fr'.look (.home (tokH n k.at)) = some ⟨t.g + 1, 0, []⟩
  | [], obs, xs, ws, fr, fr', h, hl, _, _, hw => by
    simp only [keyLocs, Fr.looks, Option.some.injEq] at hl
    subst hl
    simp only [handBack, Option.some.injEq] at h
    subst h
    simp only [Fr.writes, Option.some.injEq] at hw
    subst hw
    exact ⟨⟨rfl, rfl, rfl, rfl⟩, fun _ _ => rfl, by simp⟩
  | k :: ks, obs, xs, ws, fr, fr', h, hl, hlow, hpw, hw => by
    simp only [keyLocs, Fr.looks] at hl
    cases h1 : fr.look k.at with
    | none => simp [h1] at hl
    | some o =>
      cases h2 : fr.look (.home (tokH n k.at)) with
      | none => simp [h1, h2] at hl
      | some t =>
        cases h3 : fr.looks (keyLocs n ks) with
        | none => simp [h1, h2, h3] at hl
        | some obs' =>
          simp only [h1, h2, h3, Option.some.injEq] at hl
          subst hl
          cases xs with
          | nil => simp [handBack] at h
          | cons x xs =>
            simp only [handBack] at h
            split at h
            · rename_i hlen
              cases hb : handBack n all ks obs' xs with
              | none => simp [hb] at h
              | some ws' =>
                simp only [hb, Option.map_some, Option.some.injEq] at h
                subst h
                simp only [Fr.writes] at hw
                cases w1 : fr.write (.cells k.at 0 (cback all (tokH n k.at) (t.g + 1) x.cs)) with
                | none => simp [w1] at hw
                | some f1 =>
                  simp only [w1] at hw
                  cases w2 : f1.write (.setb (tokH n k.at) ⟨t.g + 1, 0, []⟩) with
                  | none => simp [w2] at hw
                  | some f2 =>
                    simp only [w2] at hw
                    obtain ⟨a1, a2, a3, a4, a5, a6⟩ := write_cells_all h1 (by rw [cback_len]; exact hlen) w1
                    obtain ⟨b1, b2, b3, b4, b5, b6⟩ := write_setb_all w2
                    have hlowk := hlow k (by simp)
                    rw [List.pairwise_cons] at hpw
                    have hoth : ∀ k' ∈ ks, k'.at ≠ k.at ∧ Loc.home (tokH n k'.at) ≠ k.at ∧ k'.at ≠ .home (tokH n k.at) ∧ Loc.home (tokH n k'.at) ≠ .home (tokH n k.at) := fun k' hk' =>
                      ⟨fun e => hpw.1 k' hk' e.symm, fun e => low_tok (k' := k') hlowk e.symm, fun e => low_tok (k' := k) (hlow k' (by simp [hk'])) e, fun e => by
                        simp only [Loc.home.injEq] at e
                        exact hpw.1 k' hk' (tok_inj (hlow k' (by simp [hk'])) hlowk e).symm⟩
                    have hsame : f2.looks (keyLocs n ks) = some obs' := by
                      rw [← h3]
                      refine looks_congr fun l hl' => ?_
                      obtain ⟨k', hk', hor⟩ := mem_keyLocs hl'
                      obtain ⟨c1, c2, c3, c4⟩ := hoth k' hk'
                      rcases hor with rfl | rfl
                      · rw [b6 _ c3, a6 _ c1]
                      · rw [b6 _ c4, a6 _ c2]
                    obtain ⟨⟨r1, r2, r3, r4⟩, r5, r6⟩ := back_writes hb hsame (fun k' hk' => hlow k' (by simp [hk'])) hpw.2 hw
                    refine ⟨⟨by rw [r1, b1, a1], by rw [r2, b2, a2], by rw [r3, b3, a3], by rw [r4, b4, a4]⟩, fun l hl' => ?_, fun i k' hi => ?_⟩
                    · rw [r5 l (fun k' hk' => hl' k' (by simp [hk'])), b6 l (hl' k (by simp)).2, a6 l (hl' k (by simp)).1]
                    · cases i with
                      | zero =>
                        simp at hi
                        subst hi
                        refine ⟨o, t, x, h1, h2, rfl, hlen, ?_, ?_⟩
                        · rw [r5 _ (fun k' hk' => ⟨fun e => (hoth k' hk').1 e.symm, fun e => (hoth k' hk').2.1 e.symm⟩), b6 _ (low_tok hlowk), a5]
                        · rw [r5 _ (fun k' hk' => ⟨fun e => (hoth k' hk').2.2.1 e.symm, fun e => (hoth k' hk').2.2.2 e.symm⟩), b5]
                      | succ i =>
                        have hi' : ks[i]? = some k' := by simpa using hi
                        have hk' := List.mem_of_getElem? hi'
                        obtain ⟨o', t', x', s1, s2, s3, s4, s5, s6⟩ := r6 i k' hi'
                        obtain ⟨c1, c2, c3, c4⟩ := hoth k' hk'
                        refine ⟨o', t', x', by rw [← s1, b6 _ c3, a6 _ c1], by rw [← s2, b6 _ c4, a6 _ c2], by simpa using s3, s4, s5, s6⟩
            · cases h

end Go.Dev

/- Calls: the caller's frame behind the call. -/
namespace Go.Dev
open Go

variable {P : Program}

structure Back (fr fr' : Fr) (n : Nat) (ks : List Key) (fo' : List Ob) (ad : Option (Nat × Ob)) : Prop where
  tm : fr'.tm = fr.tm
  bl : fr'.bx.length = fr.bx.length
  fl : fr'.fo.length = fr.fo.length
  oth : ∀ l, (∀ k ∈ ks, l ≠ k.at ∧ l ≠ .home (tokH n k.at)) → (∀ d q, ad = some (d, q) → l ≠ .home d) → fr'.look l = fr.look l
  at' : ∀ (i : Nat) (k : Key), ks[i]? = some k → ∃ o t x, fr.look k.at = some o ∧ fr.look (.home (tokH n k.at)) = some t ∧ fo'[i]? = some x ∧ o.cs.length = x.cs.length ∧ fr'.look k.at = some ⟨o.g, o.ty, cback ks (tokH n k.at) (t.g + 1) x.cs⟩ ∧ fr'.look (.home (tokH n k.at)) = some ⟨t.g + 1, 0, []⟩
  adl : ∀ d q, ad = some (d, q) → fr'.look (.home d) = some q ∧ d < n ∧ (∀ k ∈ ks, k.at ≠ .home d) ∧ ∃ a x xs, fr.look (.home d) = some a ∧ fo'[ks.length]? = some x ∧ toVs x.cs = some xs ∧ q = ⟨a.g + 1, x.ty, xs.map C.v⟩

def ownAt (ks : List Key) (ad : Option (Nat × Ob)) (i : Nat) : Ow := match ks[i]? with
  | some k => k.own
  | none => match ad with
    | some (d, _) => .home d
    | none => .no

open Classical in
noncomputable def hOut (c : Cx) (fr : Fr) (n : Nat) (ks : List Key) (ad : Option (Nat × Ob)) (c2 : Cx) : Cx where
  w := c2.w
  nfo := c.nfo
  gen := fun h => if (∃ q, ad = some (h, q)) ∨ ∃ i : Nat, ∃ k : Key, ks[i]? = some k ∧ h = tokH n k.at then c.gen h + 1 else c.gen h
  gh := {
    β := fun h => if ∃ q, ad = some (h, q) then c2.gh.φ ks.length else if ht : ∃ i : Nat, ∃ k : Key, ks[i]? = some k ∧ h = tokH n k.at then c2.gh.β ht.choose else c.gh.β h
    φ := c.gh.φ
    G := c2.gh.G
    ow := fun b => if b < c.w.heap.size ∧ hOw c fr n ks b = .no then c.gh.ow b else match c2.gh.ow b with
      | .no => .no
      | .fo i => ownAt ks ad i
      | .home i => match ks[i]? with | some k => .home (tokH n k.at) | none => .no }

section
variable {e : Ent} {c c2 : Cx} {fr fr' : Fr} {tmps : Array Value} {n : Nat} {ks : List Key} {fo fo' : List Ob} {ad : Option (Nat × Ob)}

theorem tok_idx (H : Handing c fr n ks fo) {i j : Nat} {k k' : Key} (hi : ks[i]? = some k) (hj : ks[j]? = some k') (h : tokH n k.at = tokH n k'.at) : i = j := by
  obtain ⟨o1, t1, a1, a2, a3, a4, _⟩ := H.at' i k hi
  obtain ⟨o2, t2, b1, b2, b3, b4, _⟩ := H.at' j k' hj
  have := key_inj a1 b1 a3 b3 (tok_inj a4 b4 h)
  subst this
  have hlt := (List.getElem?_eq_some_iff.1 hi).1
  exact (List.getElem?_inj hlt H.nd).1 (by rw [hi, hj])

theorem out_gen_tok {i : Nat} {k : Key} (hi : ks[i]? = some k) : (hOut c fr n ks ad c2).gen (tokH n k.at) = c.gen (tokH n k.at) + 1 := by
  simp only [hOut]; rw [if_pos (.inr ⟨i, k, hi, rfl⟩)]

theorem out_gen_ad {d : Nat} {q : Ob} (h : ad = some (d, q)) : (hOut c fr n ks ad c2).gen d = c.gen d + 1 := by
  simp only [hOut]; rw [if_pos (.inl ⟨q, h⟩)]

theorem out_gen_oth {h : Nat} (h1 : ∀ q, ad ≠ some (h, q)) (h2 : ∀ (i : Nat) (k : Key), ks[i]? = some k → h ≠ tokH n k.at) : (hOut c fr n ks ad c2).gen h = c.gen h := by
  simp only [hOut]; rw [if_neg]
  rintro (⟨q, hq⟩ | ⟨i, k, hi, hk⟩)
  · exact h1 q hq
  · exact h2 i k hi hk

theorem tok_ge (k : Key) (hk : k.low n = true) : n ≤ tokH n k.at := by
  cases k <;> simp only [Key.at, tokH] <;> omega

theorem out_β_tok (H : Handing c fr n ks fo) (hn : ∀ d q, ad = some (d, q) → d < n) {i : Nat} {k : Key} (hi : ks[i]? = some k) : (hOut c fr n ks ad c2).gh.β (tokH n k.at) = c2.gh.β i := by
  simp only [hOut]
  obtain ⟨o1, t1, a1, a2, a3, a4, _⟩ := H.at' i k hi
  rw [if_neg (by
    rintro ⟨q, hq⟩
    have := hn _ _ hq
    have := tok_ge (n := n) k a4
    omega)]
  have hex : ∃ j : Nat, ∃ k' : Key, ks[j]? = some k' ∧ tokH n k.at = tokH n k'.at := ⟨i, k, hi, rfl⟩
  rw [dif_pos hex]
  obtain ⟨k', h1, h2⟩ := hex.choose_spec
  rw [tok_idx H hi h1 h2]

theorem out_β_ad {d : Nat} {q : Ob} (h : ad = some (d, q)) : (hOut c fr n ks ad c2).gh.β d = c2.gh.φ ks.length := by
  simp only [hOut]; rw [if_pos ⟨q, h⟩]

theorem out_β_oth {h : Nat} (h1 : ∀ q, ad ≠ some (h, q)) (h2 : ∀ (i : Nat) (k : Key), ks[i]? = some k → h ≠ tokH n k.at) : (hOut c fr n ks ad c2).gh.β h = c.gh.β h := by
  simp only [hOut]
  rw [if_neg (fun ⟨q, hq⟩ => h1 q hq), dif_neg (fun ⟨i, k, hi, hk⟩ => h2 i k hi hk)]

/-- A home whose making is told as before is neither a token nor the one that takes over. -/
theorem out_same {h : Nat} (hg : c.gen h = (hOut c fr n ks ad c2).gen h) : (∀ q, ad ≠ some (h, q)) ∧ ∀ (i : Nat) (k : Key), ks[i]? = some k → h ≠ tokH n k.at := by
  refine ⟨fun q hq => ?_, fun i k hi hk => ?_⟩
  · rw [out_gen_ad hq] at hg; omega
  · subst hk; rw [out_gen_tok hi] at hg; omega

/-- Blocks that are no one's for the callee. -/
theorem out_no (R2 : RelFr ⟨c.w, c.gh.G, hOw c fr n ks⟩ c2 (HandF fo') #[]) {b : Nat} (hb : b < c.w.heap.size) (hno : hOw c fr n ks b = .no) :
    c2.w.heap[b]? = c.w.heap[b]? ∧ c2.gh.G b = c.gh.G b ∧ (hOut c fr n ks ad c2).gh.ow b = c.gh.ow b := by
  refine ⟨R2.old b hb hno, (R2.ows b hb hno).2, ?_⟩
  simp only [hOut]; rw [if_pos ⟨hb, hno⟩]

/-- A block that the callee has as its own. -/
theorem out_ow (R2 : RelFr ⟨c.w, c.gh.G, hOw c fr n ks⟩ c2 (HandF fo') #[]) {b : Nat} (hne : c2.gh.ow b ≠ .no) : (hOut c fr n ks ad c2).gh.ow b = (match c2.gh.ow b with
      | .no => .no
      | .fo i => ownAt ks ad i
      | .home i => match ks[i]? with | some k => .home (tokH n k.at) | none => .no) := by
  simp only [hOut]; rw [if_neg]
  rintro ⟨h1, h2⟩
  exact hne (R2.ows b h1 h2).1

theorem hOw_tip_no (R : RelFr e c fr tmps) (H : Handing c fr n ks fo) {b h : Nat} (hG : 0 < c.gh.G b) (how : c.gh.ow b = .home h) (h2 : ∀ (i : Nat) (k : Key), ks[i]? = some k → h ≠ tokH n k.at) : hOw c fr n ks b = .no := by
  refine hOw_no (fun i k o hi ho hne hb => ?_) (fun i k hi hb hw hG' => ?_)
  · obtain ⟨o2, t2, b1, b2, b3, b4, _⟩ := H.at' i k hi
    rw [ho] at b1; cases b1
    obtain ⟨_, _, _, _, _, _, y2, _⟩ := R.keyBox ho b3 hne
    rw [hb, y2] at hG
    omega
  · rw [how] at hw
    cases hw
    exact h2 i k hi rfl

theorem out_le (R : RelFr e c fr tmps) (H : Handing c fr n ks fo) (O : OutLe (hCx c fr n ks) c2) (R2 : RelFr ⟨c.w, c.gh.G, hOw c fr n ks⟩ c2 (HandF fo') #[]) : CxLe c (hOut c fr n ks ad c2) where
  rd := O.rd
  size := O.size
  gen := fun h => by simp only [hOut]; split <;> omega
  home := fun h hg => by
    obtain ⟨h1, h2⟩ := out_same hg
    exact out_β_oth h1 h2
  tip := fun h arr ty fz hg hp how hb => by
    obtain ⟨h1, h2⟩ := out_same hg
    have hlt : c.gh.β h < c.w.heap.size := (Array.getElem?_eq_some_iff.1 hb).1
    obtain ⟨k1, k2, k3⟩ := out_no (ad := ad) R2 hlt (hOw_tip_no R H hp how h2)
    exact ⟨k2, by rw [k3]; exact how, arr, fz, by show c2.w.heap[_]? = _; rw [k1]; exact hb, rfl, id⟩
  fo := fun _ _ => rfl
  nfo := Nat.le_refl _

/-- A variable of the caller's that was not handed over. -/
theorem out_box (R : RelFr e c fr tmps) (H : Handing c fr n ks fo) (O : OutLe (hCx c fr n ks) c2) (R2 : RelFr ⟨c.w, c.gh.G, hOw c fr n ks⟩ c2 (HandF fo') #[]) {b : Nat} {own : Ow} {o : Ob} (hbox : BoxRel c b own o) (hk : ∀ k ∈ ks, own ≠ k.own) : BoxRel (hOut c fr n ks ad c2) b own o := by
  have hbox' := hbox
  obtain ⟨arr, ty, k1, k2, k3, k4, k5⟩ := hbox
  have hlt : b < c.w.heap.size := (Array.getElem?_eq_some_iff.1 k1).1
  have hno : hOw c fr n ks b = .no := by
    refine hOw_no (fun i k o' hi ho hne hb => ?_) (fun i k hi hb hw hG => by omega)
    obtain ⟨o2, t2, b1, b2, b3, b4, _⟩ := H.at' i k hi
    rw [ho] at b1; cases b1
    obtain ⟨_, _, _, _, _, _, _, y2⟩ := R.keyBox ho b3 hne
    rw [hb, y2] at k5
    exact hk k (List.mem_of_getElem? hi) k5.symm
  obtain ⟨l1, l2, l3⟩ := out_no (ad := ad) R2 hlt hno
  exact hbox'.mono (out_le R H O R2) l1 l2 l3

theorem back_key (hkeys : ∀ (j : Nat) (k : Key), ks[j]? = some k → k.le (hOut c fr n ks ad c2) ∧ (k.ok (hOut c fr n ks ad c2) → k.blk (hOut c fr n ks ad c2).gh = c2.gh.φ j)) {ks' : List Key} (hk' : ∀ (j : Nat) (k : Key), ks'[j]? = some k → k.le (hOut c fr n ks ad c2) ∧ (k.ok (hOut c fr n ks ad c2) → k.blk (hOut c fr n ks ad c2).gh = c2.gh.φ j)) {x y : C} {v : Value} (h : RelC c2 x v) (hb : backC ks' x = some y) : RelC (hOut c fr n ks ad c2) y v := by
  unfold backC at hb
  split at hb
  · simp only [Option.some.injEq] at hb; subst hb; simp only [RelC] at h ⊢; exact h
  · simp only [Option.some.injEq] at hb; subst hb; simp only [RelC] at h ⊢; exact h
  · rename_i i sz off len
    cases hi : ks'[i]? with
    | none => simp [hi] at hb
    | some k =>
      simp only [hi, Option.map_some, Option.some.injEq] at hb
      subst hb
      obtain ⟨a1, a2⟩ := hk' i k hi
      simp only [RelC] at h ⊢
      obtain ⟨_, A, cap, r1, r2, r3⟩ := h
      refine ⟨a1, A, cap, r1, r2, fun hp => ?_⟩
      obtain ⟨b, arr, ty, fz, s1, s2, s3, s4⟩ := r3 hp
      exact ⟨b, arr, ty, fz, s1, s2, s3, fun ho => by rw [a2 ho]; exact s4 trivial⟩
  · rename_i i off
    cases hi : ks'[i]? with
    | none => simp [hi] at hb
    | some k =>
      simp only [hi, Option.map_some, Option.some.injEq] at hb
      subst hb
      obtain ⟨a1, a2⟩ := hk' i k hi
      simp only [RelC] at h ⊢
      obtain ⟨_, b, r1, r2⟩ := h
      exact ⟨a1, b, r1, fun ho => by rw [a2 ho]; exact r2 trivial⟩
  · cases hb

theorem hkeys_of (R : RelFr e c fr tmps) (H : Handing c fr n ks fo) (O : OutLe (hCx c fr n ks) c2) : ∀ (j : Nat) (k : Key), ks[j]? = some k → k.le (hOut c fr n ks ad c2) ∧ (k.ok (hOut c fr n ks ad c2) → k.blk (hOut c fr n ks ad c2).gh = c2.gh.φ j) := by
  intro j k hj
  obtain ⟨o, t, a1, a2, a3, a4, _⟩ := H.at' j k hj
  obtain ⟨hok, hle⟩ := key_ok R a1 a3
  have hφ : c2.gh.φ j = k.blk c.gh := by rw [O.fo j (List.getElem?_eq_some_iff.1 hj).1]; simp only [hCx, hj]
  cases k with
  | loc h g =>
    simp only [Key.le, Key.ok, Key.blk] at *
    have hge : c.gen h ≤ (hOut c fr n ks ad c2).gen h := by simp only [hOut]; split <;> omega
    refine ⟨by omega, fun ho => ?_⟩
    obtain ⟨h1, h2⟩ := out_same (c := c) (fr := fr) (n := n) (ks := ks) (ad := ad) (c2 := c2) (h := h) (by omega)
    rw [out_β_oth h1 h2, hφ]
  | fo i =>
    simp only [Key.le, Key.blk] at *
    exact ⟨hle, fun _ => by rw [hφ]; rfl⟩

theorem backL_rel (hk : ∀ (j : Nat) (k : Key), ks[j]? = some k → k.le (hOut c fr n ks ad c2) ∧ (k.ok (hOut c fr n ks ad c2) → k.blk (hOut c fr n ks ad c2).gh = c2.gh.φ j)) {ks' : List Key} (hk' : ∀ (j : Nat) (k : Key), ks'[j]? = some k → k.le (hOut c fr n ks ad c2) ∧ (k.ok (hOut c fr n ks ad c2) → k.blk (hOut c fr n ks ad c2).gh = c2.gh.φ j)) : ∀ {xs ys : List C} {vs : List Value}, RelCs c2 xs vs → backL ks' xs = some ys → RelCs (hOut c fr n ks ad c2) ys vs
  | [], ys, [], _, h => by simp only [backL, Option.some.injEq] at h; subst h; simp [RelCs]
  | x :: xs, ys, v :: vs, hr, h => by
    simp only [backL] at h
    split at h
    · rename_i y zs h1 h2
      simp only [Option.some.injEq] at h
      subst h
      simp only [RelCs] at hr ⊢
      exact ⟨back_key hk hk' hr.1 h1, backL_rel hk hk' hr.2 h2⟩
    · cases h
  | [], _, _ :: _, h, _ => by simp [RelCs] at h
  | _ :: _, _, [], h, _ => by simp [RelCs] at h

mutual
theorem backT_rel (hk : ∀ (j : Nat) (k : Key), ks[j]? = some k → k.le (hOut c fr n ks ad c2) ∧ (k.ok (hOut c fr n ks ad c2) → k.blk (hOut c fr n ks ad c2).gh = c2.gh.φ j)) {ks' : List Key} (hk' : ∀ (j : Nat) (k : Key), ks'[j]? = some k → k.le (hOut c fr n ks ad c2) ∧ (k.ok (hOut c fr n ks ad c2) → k.blk (hOut c fr n ks ad c2).gh = c2.gh.φ j)) : ∀ (x y : T) (v : Value), RelT c2 x v → backT ks' x = some y → RelT (hOut c fr n ks ad c2) y v
  | .one x, y, v, hr, h => by
    simp only [backT] at h
    cases hb : backC ks' x with
    | none => simp [hb] at h
    | some z =>
      simp only [hb, Option.map_some, Option.some.injEq] at h
      subst h
      have hx : x ≠ .dead := by rintro rfl; simp [backC] at hb
      exact RelT.one (back_key hk hk' (hr.one_live hx) hb)
  | .agg cs, y, v, hr, h => by
    simp only [backT] at h
    cases hb : backL ks' cs with
    | none => simp [hb] at h
    | some z =>
      simp only [hb, Option.map_some, Option.some.injEq] at h
      subst h
      simp only [RelT] at hr ⊢
      obtain ⟨arr, rfl, r⟩ := hr
      exact ⟨arr, rfl, backL_rel hk hk' r hb⟩
  | .tup ts, y, v, hr, h => by
    simp only [backT] at h
    cases hb : backT.backTs ks' ts with
    | none => simp [hb] at h
    | some z =>
      simp only [hb, Option.map_some, Option.some.injEq] at h
      subst h
      simp only [RelT] at hr ⊢
      obtain ⟨arr, rfl, r⟩ := hr
      exact ⟨arr, rfl, backTs_rel hk hk' ts z arr r hb⟩
theorem backTs_rel (hk : ∀ (j : Nat) (k : Key), ks[j]? = some k → k.le (hOut c fr n ks ad c2) ∧ (k.ok (hOut c fr n ks ad c2) → k.blk (hOut c fr n ks ad c2).gh = c2.gh.φ j)) {ks' : List Key} (hk' : ∀ (j : Nat) (k : Key), ks'[j]? = some k → k.le (hOut c fr n ks ad c2) ∧ (k.ok (hOut c fr n ks ad c2) → k.blk (hOut c fr n ks ad c2).gh = c2.gh.φ j)) : ∀ (xs ys : List T) (vs : List Value), RelTs c2 xs vs → backT.backTs ks' xs = some ys → RelTs (hOut c fr n ks ad c2) ys vs
  | [], ys, [], _, h => by simp only [backT.backTs, Option.some.injEq] at h; subst h; simp [RelTs]
  | x :: xs, ys, v :: vs, hr, h => by
    simp only [backT.backTs] at h
    split at h
    · rename_i y zs h1 h2
      simp only [Option.some.injEq] at h
      subst h
      simp only [RelTs] at hr ⊢
      exact ⟨backT_rel hk hk' x y v hr.1 h1, backTs_rel hk hk' xs zs vs hr.2 h2⟩
    · cases h
  | [], _, _ :: _, h, _ => by simp [RelTs] at h
  | _ :: _, _, [], h, _ => by simp [RelTs] at h
end

/-- The cells of a variable that comes back. -/
theorem cback_rel (R : RelFr e c fr tmps) (H : Handing c fr n ks fo) (O : OutLe (hCx c fr n ks) c2) (R2 : RelFr ⟨c.w, c.gh.G, hOw c fr n ks⟩ c2 (HandF fo') #[]) (hn : ∀ d q, ad = some (d, q) → d < n) {i : Nat} {k : Key} {t : Ob} (hi : ks[i]? = some k) (ht : fr.look (.home (tokH n k.at)) = some t) :
    ∀ (xs : List C) (j : Nat) (y : C), (cback ks (tokH n k.at) (t.g + 1) xs)[j]? = some y → ∃ x, (enterO i xs)[j]? = some x ∧ ∀ v, RelC c2 x v → RelC (hOut c fr n ks ad c2) y v
  | [], j, y, hy => by simp [cback] at hy
  | x :: xs, j, y, hy => by
    have hk := hkeys_of (ad := ad) R H O
    have dead : ∀ z : C, ∀ v, RelC c2 z v → RelC (hOut c fr n ks ad c2) ((backC ks z).getD .dead) v := by
      intro z v hz
      cases hb : backC ks z with
      | none => simp only [Option.getD_none, RelC]; exact hz.flat
      | some y => exact back_key hk hk hz hb
    have key : ∃ x' y', enterO i (x :: xs) = x' :: enterO i xs ∧ cback ks (tokH n k.at) (t.g + 1) (x :: xs) = y' :: cback ks (tokH n k.at) (t.g + 1) xs ∧ ∀ v, RelC c2 x' v → RelC (hOut c fr n ks ad c2) y' v := by
      cases x with
      | esl => exact ⟨.esl, .esl, rfl, rfl, fun v hv => by simpa only [RelC] using hv⟩
      | own ty es =>
        refine ⟨.lin i 0 ty es, .lin (tokH n k.at) (t.g + 1) ty es, by simp only [enterO], rfl, fun v hv => ?_⟩
        have hg : c.gen (tokH n k.at) = t.g := by simp only [Fr.look] at ht; rw [R.gen]; exact Fr.ob_loc ht rfl
        simp only [RelC] at hv ⊢
        obtain ⟨h1, _, h3⟩ := hv
        have hg2 : c2.gen i = 0 := by rw [R2.gen, HandF_gen]
        refine ⟨h1, by rw [out_gen_tok hi, hg]; exact Nat.le_refl _, fun _ => ?_⟩
        obtain ⟨o, len, cap, arr, fz, sz, e1, e2, e3, e4, e5, e6, e7, e8, e9, e10, e11⟩ := h3 hg2.symm
        have hβ := out_β_tok (c2 := c2) (ad := ad) H hn hi
        refine ⟨o, len, cap, arr, fz, sz, by rw [hβ]; exact e1, e2, e3, e4, e5, e6, by rw [hβ]; exact e7, by rw [hβ]; exact e8, e9, e10, ?_⟩
        rw [hβ, out_ow R2 (by rw [e11]; simp), e11]
        simp only [hi]
      | v z => exact ⟨_, _, rfl, rfl, dead _⟩
      | lin h g ty es => exact ⟨_, _, rfl, rfl, dead _⟩
      | osl k' sz off len => exact ⟨_, _, rfl, rfl, dead _⟩
      | ref k' off => exact ⟨_, _, rfl, rfl, dead _⟩
      | fn f a b => exact ⟨_, _, rfl, rfl, dead _⟩
      | sd _ _ _ _ => exact ⟨_, _, rfl, rfl, dead _⟩
      | dead => exact ⟨_, _, rfl, rfl, dead _⟩
    obtain ⟨x', y', k1, k2, k3⟩ := key
    rw [k2] at hy
    rw [k1]
    cases j with
    | zero => simp at hy; subst hy; exact ⟨x', rfl, k3⟩
    | succ j => simpa using cback_rel R H O R2 hn hi ht xs j y (by simpa using hy)

end
end Go.Dev

/- Calls: the caller's frame behind the call, all together. -/
namespace Go.Dev
open Go

variable {P : Program}

section
variable {e : Ent} {c c2 : Cx} {fr fr' : Fr} {tmps : Array Value} {n : Nat} {ks : List Key} {fo fo' : List Ob} {ad : Option (Nat × Ob)}

theorem genOf_look (fr : Fr) (h : Nat) : genOf fr h = ((fr.look (.home h)).map (·.g)).getD 0 := rfl

theorem enterO_toV {i : Nat} : ∀ {xs : List C} {ys : List V}, toVs xs = some ys → enterO i xs = xs
  | [], _, _ => rfl
  | x :: xs, ys, h => by
    simp only [toVs] at h
    split at h
    · rename_i y zs h1 h2
      cases x <;> first | (simp only [enterO, enterO_toV h2]; done) | (simp [C.toV] at h1; done)
    · cases h

theorem hOw_old (R : RelFr e c fr tmps) (H : Handing c fr n ks fo) {b : Nat} (hb : b < e.w.heap.size) (ho : e.ow b = .no) : hOw c fr n ks b = .no := by
  have hc := (R.ows b hb ho).1
  refine hOw_no (fun i k o hi hl hne hbb => ?_) (fun i k hi hbb hw hG => ?_)
  · obtain ⟨o2, t2, b1, b2, b3, b4, _⟩ := H.at' i k hi
    rw [hl] at b1; cases b1
    obtain ⟨_, _, _, _, _, _, _, y2⟩ := R.keyBox hl b3 hne
    rw [hbb, y2] at hc
    cases k <;> cases hc
  · rw [hc] at hw; cases hw

/-- The variable behind a key, as it comes back. -/
theorem key_back (R : RelFr e c fr tmps) (H : Handing c fr n ks fo) (O : OutLe (hCx c fr n ks) c2) (R2 : RelFr ⟨c.w, c.gh.G, hOw c fr n ks⟩ c2 (HandF fo') #[]) (hn : ∀ d q, ad = some (d, q) → d < n) {i : Nat} {k : Key} {o t x : Ob} (hi : ks[i]? = some k)
    (ho : fr.look k.at = some o) (ht : fr.look (.home (tokH n k.at)) = some t) (hx : fo'[i]? = some x) (hl : o.cs.length = x.cs.length) (hne : o.cs ≠ []) :
    BoxRel (hOut c fr n ks ad c2) (k.blk c.gh) k.own ⟨o.g, o.ty, cback ks (tokH n k.at) (t.g + 1) x.cs⟩ := by
  obtain ⟨o2, t2, b1, b2, b3, b4, _⟩ := H.at' i k hi
  rw [ho] at b1; cases b1
  obtain ⟨_, arr0, ty0, l1, l2, _⟩ := R.keyBox ho b3 hne
  have hφ : c2.gh.φ i = k.blk c.gh := by rw [O.fo i (List.getElem?_eq_some_iff.1 hi).1]; simp only [hCx, hi]
  have hfo : (HandF fo').fo[i]? = some ⟨0, x.ty, enterO i x.cs⟩ := by simp only [HandF, enterF_at, hx, Option.map_some, Nat.mul_zero, Nat.zero_add]
  obtain ⟨arr, ty, k1, k2, k3, k4, k5⟩ := R2.fos i _ hfo (by
    intro k0
    have := congrArg List.length k0
    simp only [enterO_len, List.length_nil] at this
    exact hne (List.length_eq_zero_iff.1 (by omega)))
  rw [hφ] at k1 k4 k5
  obtain ⟨arr', fz', s1, s2⟩ := O.size _ _ _ _ l1
  rw [k1] at s1
  simp only [Option.some.injEq, Obj.cells.injEq] at s1
  obtain ⟨rfl, rfl, _⟩ := s1
  refine ⟨arr, ty, k1, fun hty => ?_, fun j y hy => ?_, k4, ?_⟩
  · obtain ⟨q1, q2⟩ := l2 hty
    exact ⟨q1, by simp only [cback_len]; omega⟩
  · obtain ⟨x', x1, x2⟩ := cback_rel (ad := ad) R H O R2 hn hi ht x.cs j y hy
    obtain ⟨v, v1, v2⟩ := k3 j x' x1
    exact ⟨v, v1, x2 v v2⟩
  · rw [out_ow R2 (by rw [k5]; simp), k5]
    simp only [ownAt, hi]

theorem hand_exit (R : RelFr e c fr tmps) (H : Handing c fr n ks fo) (B : Back fr fr' n ks fo' ad) (O : OutLe (hCx c fr n ks) c2) (R2 : RelFr ⟨c.w, c.gh.G, hOw c fr n ks⟩ c2 (HandF fo') #[]) : RelFr e (hOut c fr n ks ad c2) fr' tmps := by
  have hn : ∀ d q, ad = some (d, q) → d < n := fun d q h => (B.adl d q h).2.1
  have Hle := out_le (ad := ad) R H O R2
  have htokn : ∀ (i : Nat) (k : Key), ks[i]? = some k → n ≤ tokH n k.at := fun i k hi => by
    obtain ⟨_, _, _, _, _, a4, _⟩ := H.at' i k hi
    exact tok_ge k a4
  have hlow : ∀ k ∈ ks, k.low n = true := fun k hk => by
    obtain ⟨i, hi⟩ := List.getElem?_of_mem hk
    obtain ⟨_, _, _, _, _, a4, _⟩ := H.at' i k hi
    exact a4
  refine R.move Hle ?_ (by rw [B.fl]; exact R.nfo) B.tm (fun h o h1 h2 => ?_) (fun j o h1 h2 => ?_) (fun b b1 b2 => ?_) (fun b b1 b2 => ?_) R2.size R2.os R2.tape R2.output
  · funext h
    rw [genOf_look]
    by_cases had : ∃ q, ad = some (h, q)
    · obtain ⟨q, hq⟩ := had
      obtain ⟨l1, l2, l3, a, x, xs, l4, l5, l6, rfl⟩ := B.adl h q hq
      rw [out_gen_ad hq, l1]
      simp only [Fr.look] at l4
      rw [R.gen, Fr.ob_loc l4 rfl]
      rfl
    · by_cases htok : ∃ (i : Nat) (k : Key), ks[i]? = some k ∧ h = tokH n k.at
      · obtain ⟨i, k, hi, rfl⟩ := htok
        obtain ⟨o, t, x, m1, m2, m3, m4, m5, m6⟩ := B.at' i k hi
        rw [out_gen_tok hi, m6]
        simp only [Fr.look] at m2
        rw [R.gen, Fr.ob_loc m2 rfl]
        rfl
      · rw [out_gen_oth (fun q hq => had ⟨q, hq⟩) (fun i k hi hk => htok ⟨i, k, hi, hk⟩), R.gen, genOf_look]
        by_cases hkey : ∃ k ∈ ks, k.at = .home h
        · obtain ⟨k, hk, hkh⟩ := hkey
          obtain ⟨i, hi⟩ := List.getElem?_of_mem hk
          obtain ⟨o, t, x, m1, m2, m3, m4, m5, m6⟩ := B.at' i k hi
          rw [← hkh, m1, m5]
          rfl
        · rw [B.oth (.home h) (fun k hk => ⟨fun e => hkey ⟨k, hk, e.symm⟩, fun e => by
            obtain ⟨i, hi⟩ := List.getElem?_of_mem hk
            simp only [Loc.home.injEq] at e
            exact htok ⟨i, k, hi, e⟩⟩) (fun d q hq e => by simp only [Loc.home.injEq] at e; subst e; exact had ⟨q, hq⟩)]
  · have hlk : fr'.look (.home h) = some o := h1
    by_cases had : ∃ q, ad = some (h, q)
    · obtain ⟨q, hq⟩ := had
      obtain ⟨l1, l2, l3, a, x, xs, l4, l5, l6, rfl⟩ := B.adl h q hq
      rw [hlk, Option.some.injEq] at l1
      subst l1
      have hfo : (HandF fo').fo[ks.length]? = some ⟨0, x.ty, enterO ks.length x.cs⟩ := by simp only [HandF, enterF_at, l5, Option.map_some, Nat.mul_zero, Nat.zero_add]
      rw [enterO_toV l6] at hfo
      have hxne : x.cs ≠ [] := by
        intro k0
        have := toVs_len l6
        rw [k0] at this
        simp only [List.length_nil, List.length_eq_zero_iff] at this
        subst this
        exact h2 rfl
      obtain ⟨arr, ty, k1, k2, k3, k4, k5⟩ := R2.fos _ _ hfo hxne
      rw [out_β_ad hq]
      refine ⟨arr, ty, k1, fun hty => ?_, fun j y hy => ?_, k4, ?_⟩
      · obtain ⟨q1, q2⟩ := k2 hty
        exact ⟨q1, by simp only [List.length_map]; rw [toVs_len l6]; exact q2⟩
      · rw [List.getElem?_map] at hy
        cases hz : xs[j]? with
        | none => simp [hz] at hy
        | some z =>
          simp only [hz, Option.map_some, Option.some.injEq] at hy
          subst hy
          obtain ⟨y0, y1, y2⟩ := toVs_at l6 hz
          obtain ⟨v, v1, v2⟩ := k3 j y0 y1
          exact ⟨v, v1, by simp only [RelC]; show RelV c2.w c2.gh.G z v; exact toV_rel v2 y2⟩
      · rw [out_ow R2 (by rw [k5]; simp), k5]
        simp only [ownAt, List.getElem?_eq_none (Nat.le_refl _), hq]
    · by_cases htok : ∃ (i : Nat) (k : Key), ks[i]? = some k ∧ h = tokH n k.at
      · obtain ⟨i, k, hi, rfl⟩ := htok
        obtain ⟨o', t, x, m1, m2, m3, m4, m5, m6⟩ := B.at' i k hi
        rw [hlk, Option.some.injEq] at m6
        subst m6
        exact absurd rfl h2
      · have hβ : (hOut c fr n ks ad c2).gh.β h = c.gh.β h := out_β_oth (fun q hq => had ⟨q, hq⟩) (fun i k hi hk => htok ⟨i, k, hi, hk⟩)
        rw [hβ]
        by_cases hkey : ∃ k ∈ ks, k.at = .home h
        · obtain ⟨k, hk, hkh⟩ := hkey
          obtain ⟨i, hi⟩ := List.getElem?_of_mem hk
          obtain ⟨o', t, x, m1, m2, m3, m4, m5, m6⟩ := B.at' i k hi
          rw [hkh, hlk, Option.some.injEq] at m5
          subst m5
          have hone : o'.cs ≠ [] := by
            intro k0
            refine h2 (List.length_eq_zero_iff.1 ?_)
            simp only [cback_len, ← m4, k0, List.length_nil]
          have := key_back (ad := ad) R H O R2 hn hi m1 m2 m3 m4 hone
          cases k with
          | loc h' g =>
            simp only [Key.at, Loc.home.injEq] at hkh
            subst hkh
            exact this
          | fo j => simp [Key.at] at hkh
        · have hsame := B.oth (.home h) (fun k hk => ⟨fun e => hkey ⟨k, hk, e.symm⟩, fun e => by
            obtain ⟨i, hi⟩ := List.getElem?_of_mem hk
            simp only [Loc.home.injEq] at e
            exact htok ⟨i, k, hi, e⟩⟩) (fun d q hq e => by simp only [Loc.home.injEq] at e; subst e; exact had ⟨q, hq⟩)
          rw [hlk] at hsame
          refine out_box R H O R2 (R.bxs h o hsame.symm h2) (fun k hk e => hkey ⟨k, hk, ?_⟩)
          cases k <;> simp_all [Key.own, Key.at]
  · have hlk : fr'.look (.fo j) = some o := h1
    by_cases hkey : ∃ k ∈ ks, k.at = .fo j
    · obtain ⟨k, hk, hkh⟩ := hkey
      obtain ⟨i, hi⟩ := List.getElem?_of_mem hk
      obtain ⟨o', t, x, m1, m2, m3, m4, m5, m6⟩ := B.at' i k hi
      rw [hkh, hlk, Option.some.injEq] at m5
      subst m5
      have hone : o'.cs ≠ [] := by
        intro k0
        refine h2 (List.length_eq_zero_iff.1 ?_)
        simp only [cback_len, ← m4, k0, List.length_nil]
      have := key_back (ad := ad) R H O R2 hn hi m1 m2 m3 m4 hone
      cases k with
      | loc h' g => simp [Key.at] at hkh
      | fo j' =>
        simp only [Key.at, Loc.fo.injEq] at hkh
        subst hkh
        exact this
    · have hsame := B.oth (.fo j) (fun k hk => ⟨fun e => hkey ⟨k, hk, e.symm⟩, by simp⟩) (fun d q hq => by simp)
      rw [hlk] at hsame
      refine out_box R H O R2 (R.fos j o hsame.symm h2) (fun k hk e => hkey ⟨k, hk, ?_⟩)
      cases k <;> simp_all [Key.own, Key.at]
  · exact (out_no (ad := ad) R2 (Nat.lt_of_lt_of_le b1 R.size) (hOw_old R H b1 b2)).1
  · obtain ⟨_, q2, q3⟩ := out_no (ad := ad) R2 (Nat.lt_of_lt_of_le b1 R.size) (hOw_old R H b1 b2)
    exact ⟨q3, q2⟩

end
end Go.Dev

/- Calls: the operation. -/
namespace Go.Dev
open Go

variable {P : Program}

/-- What is told of functions that have no body. -/
def ExtOk (P : Program) (ext : Ext) : Prop := ∀ (f : Nat) (p : List T → Option T), ext f = some p → ∀ (args : List T) (t : T), p args = some t → ∀ (c : Cx) (vs : List Value), RelTs c args vs → ∃ v, (callFunc f ⟨vs⟩).run P c.w = .ok (.value v) c.w ∧ RelT c t v

/-- What a step of the evaluator gives for the machine, calls among them. -/
def SndW (P : Program) (e : Ent) (c : Cx) (a : Act) (o : Oper) (t : T) (fr' : Fr) : Prop :=
  ∀ (K : Act → World → Prop) (Q : Exit → Act → World → Prop), (∀ v c', CxLe c c' → RelFr e c' fr' a.tmps → RelT c' t v → K (a.put o.dst v) c'.w) → o.wp P a c.w K Q

theorem Snd.toW {e : Ent} {c : Cx} {fr fr' : Fr} {a : Act} {o : Oper} {t : T} {ws : List W} (h : Snd P e c fr a o t ws) (hw : fr.writes ws = some fr') : SndW P e c a o t fr' := by
  intro K Q hk
  obtain ⟨v, c', h1, h2, h3, h4⟩ := h fr' hw
  exact wp_of_runs h1 (hk v c' h2 h3 h4)

theorem writes_append {fr fr' : Fr} : ∀ {xs ys : List W}, fr.writes (xs ++ ys) = some fr' → ∃ f1, fr.writes xs = some f1 ∧ f1.writes ys = some fr'
  | [], ys, h => ⟨fr, rfl, h⟩
  | x :: xs, ys, h => by
    simp only [List.cons_append, Fr.writes] at h ⊢
    cases hx : fr.write x with
    | none => simp [hx] at h
    | some f1 =>
      simp only [hx] at h ⊢
      exact writes_append h

theorem relTs_append {c : Cx} : ∀ {xs ys : List T} {us vs : List Value}, RelTs c xs us → RelTs c ys vs → RelTs c (xs ++ ys) (us ++ vs)
  | [], _, [], _, _, h => by simpa using h
  | _ :: _, _, _ :: _, _, h, k => by simp only [RelTs] at h; simp only [List.cons_append, RelTs]; exact ⟨h.1, relTs_append h.2 k⟩
  | [], _, _ :: _, _, h, _ => by simp [RelTs] at h
  | _ :: _, _, [], _, h, _ => by simp [RelTs] at h

theorem relTs_one {c : Cx} : ∀ {xs : List C} {vs : List Value}, RelCs c xs vs → RelTs c (xs.map T.one) vs
  | [], [], _ => by simp [RelTs]
  | x :: xs, v :: vs, h => by simp only [RelCs] at h; simp only [List.map_cons, RelTs]; exact ⟨RelT.one h.1, relTs_one h.2⟩
  | [], _ :: _, h => by simp [RelCs] at h
  | _ :: _, [], h => by simp [RelCs] at h

section
variable {e : Ent} {c : Cx} {fr fr' : Fr} {a : Act} {o : Oper}

theorem run_callFunc {f : Nat} (h : Enters P f) (vs : Array Value) (w : World) : (callFunc f vs).run P w = .ok (.enter f vs) w := by
  obtain ⟨fn, h1, h2, h3⟩ := h
  have h2' : ¬ fn.name = "runtime.NumGoroutine" := by simpa using h2
  have h3' : ¬ fn.body = none := by intro k; rw [k] at h3; simp at h3
  simp [callFunc, program, Sem.run, h1, h3', h2']

theorem Handing.low (c : Cx) {fr : Fr} {n : Nat} {ks : List Key} {fo : List Ob} (H : Handing c fr n ks fo) : ∀ k ∈ ks, k.low n = true := fun k hk => by
  obtain ⟨i, hi⟩ := List.getElem?_of_mem hk
  obtain ⟨_, _, _, _, _, a4, _⟩ := H.at' i k hi
  exact a4

theorem Handing.pw (c : Cx) {fr : Fr} {n : Nat} {ks : List Key} {fo : List Ob} (H : Handing c fr n ks fo) : ks.Pairwise (fun k k' => k.at ≠ k'.at) := by
  have := H.nd
  rw [List.nodup_iff_pairwise_ne] at this
  refine this.imp_of_mem fun {k k'} hk hk' hne e => hne ?_
  obtain ⟨i, hi⟩ := List.getElem?_of_mem hk
  obtain ⟨j, hj⟩ := List.getElem?_of_mem hk'
  obtain ⟨o1, t1, a1, a2, a3, a4, _⟩ := H.at' i k hi
  obtain ⟨o2, t2, b1, b2, b3, b4, _⟩ := H.at' j k' hj
  exact key_inj a1 b1 a3 b3 e

theorem handedO_of {c : Cx} {fr : Fr} {tmps : Array Value} {n : Nat} {ks : List Key} {fo : List Ob} (R : RelFr e c fr tmps) (H : Handing c fr n ks fo) : handedO fo = true := by
  simp only [handedO, List.all_eq_true]
  intro o ho
  obtain ⟨i, hi⟩ := List.getElem?_of_mem ho
  have hlt : i < ks.length := by rw [← H.len]; exact (List.getElem?_eq_some_iff.1 hi).1
  obtain ⟨o', t, a1, a2, a3, a4, a5, a6⟩ := H.at' i _ (List.getElem?_eq_getElem hlt)
  rw [hi, Option.some.injEq] at a5
  subst a5
  simp only
  have key : ∀ (b : Bool) (xs : List C), handedL (cin ks (tokH n (ks[i]).at) t.g b xs) = true := by
    have trh : ∀ x : C, handed (trC ks x) = true := by
      intro x
      have both : (∀ x : C, handed (trC ks x) = true) ∧ (∀ xs : List C, handedL (trC.trL ks xs) = true) := by
        refine ⟨?_, ?_⟩
        · intro x
          induction x using C.rec (motive_2 := fun xs => handedL (trC.trL ks xs) = true) with
          | osl k sz off len => simp only [trC]; split <;> simp [handed]
          | ref k off => simp only [trC]; split <;> simp [handed]
          | fn f a b iha ihb => simp only [trC, handed, Bool.and_eq_true]; exact ⟨iha, ihb⟩
          | nil => simp [trC.trL, handedL]
          | cons x xs ihx ihxs => simp only [trC.trL, handedL, Bool.and_eq_true]; exact ⟨ihx, ihxs⟩
          | _ => simp [trC, handed]
        · intro xs
          induction xs using List.rec with
          | nil => simp [trC.trL, handedL]
          | cons x xs ih =>
            simp only [trC.trL, handedL, Bool.and_eq_true]
            refine ⟨?_, ih⟩
            induction x using C.rec (motive_2 := fun xs => handedL (trC.trL ks xs) = true) with
            | osl k sz off len => simp only [trC]; split <;> simp [handed]
            | ref k off => simp only [trC]; split <;> simp [handed]
            | fn f a b iha ihb => simp only [trC, handed, Bool.and_eq_true]; exact ⟨iha, ihb⟩
            | nil => simp [trC.trL, handedL]
            | cons x xs ihx ihxs => simp only [trC.trL, handedL, Bool.and_eq_true]; exact ⟨ihx, ihxs⟩
            | _ => simp [trC, handed]
      exact both.1 x
    intro b xs
    induction xs generalizing b with
    | nil => simp [cin, handedL]
    | cons x xs ih =>
      cases x with
      | lin h' g' ty es =>
        cases b with
        | false => simp only [cin, handedL, Bool.and_eq_true]; exact ⟨trh _, ih _⟩
        | true =>
          simp only [cin]
          split
          · simp only [handedL, handed, Bool.and_eq_true]; exact ⟨trivial, ih _⟩
          · simp only [handedL, handed, Bool.and_eq_true]; exact ⟨trivial, ih _⟩
      | esl => cases b <;> (simp only [cin, handedL, handed, Bool.and_eq_true]; exact ⟨trivial, ih _⟩)
      | _ => cases b <;> (simp only [cin, handedL, Bool.and_eq_true]; exact ⟨trh _, ih _⟩)
  exact key true o'.cs

/-- Once it is told what is handed over. -/
theorem wp_enter (R : RelFr e c fr a.tmps) {call : CallF} (G : Good P call) {cl : Call} (ho : o.op = .call cl) {f : Nat} {all : List T} {vals : List Value} (hall : RelTs c all vals) (hexec : Enters P f → (execOp a.eval o).run P c.w = .ok (.enter f ⟨vals⟩) c.w)
    {ks : List Key} {fo : List Ob} (H : Handing c fr fr.n ks fo) (hrefs : ∀ k ∈ all.flatMap refsT, k ∈ ks) {ad : Bool} {r : T} {fo' : List Ob} (hcall : call ad f (all.map (trT ks)) fo = some (r, fo')) {adn : Option (Nat × Ob)} (B : Back fr fr' fr.n ks fo' adn) {t : T}
    (ht : ∀ c2, OutLe (hCx c fr fr.n ks) c2 → RelFr ⟨c.w, c.gh.G, hOw c fr fr.n ks⟩ c2 (HandF fo') #[] → ∀ v, RelT c2 r v → RelT (hOut c fr fr.n ks adn c2) t v) : SndW P e c a o t fr' := by
  intro K Q hk
  obtain ⟨k1, k2⟩ := trTs_rel R H all vals hall hrefs
  obtain ⟨hent, hgood⟩ := G ad f _ _ r fo' hcall k2 (handedO_of R H)
  have hc := hgood (hCx c fr fr.n ks) vals (hand_entry R H) k1
  unfold Oper.wp
  rw [hexec hent, Oper.upon_enter]
  refine hc.mono fun en w' hen => ?_
  obtain ⟨v, c2, rfl, rfl, O, R2, hr, _⟩ := hen
  exact hk v (hOut c fr fr.n ks adn c2) (out_le R H O R2) (hand_exit R H B O R2) (ht c2 O R2 v hr)

theorem empty_handing : Handing c fr fr.n [] [] := ⟨List.nodup_nil, rfl, by simp⟩

theorem callee_rel {x : T} {v : Value} {f : Nat} {first caps : List C} (h : RelT c x v) (hc : callee x = some (f, first, caps)) : ∃ fa fb, v = .func (.func f) ⟨fa⟩ ⟨fb⟩ ∧ RelCs c first fa ∧ RelCs c caps fb := by
  unfold callee at hc
  split at hc
  · simp only [Option.some.injEq, Prod.mk.injEq] at hc
    obtain ⟨rfl, rfl, rfl⟩ := hc
    have := h.one_live (by simp)
    simp only [RelC] at this
    exact this
  · cases hc

theorem wp_call (R : RelFr e c fr a.tmps) {call : CallF} (G : Good P call) {ext : Ext} (E : ExtOk P ext) {cl : Call} {g : Operand} {g' : Opd} {xs' : List Opd} {adopt : Bool} {d : Nat} (ho : o.op = .call cl) (hcl : cl.callee = .value g) (hg : cOpd g = some g') (hargs : cOpds cl.args.toList = some xs') {t : T} {ws : List W} {ls : List Loc}
    (h : fr.ask (callOp ext call fr.n adopt d (fr.get g') (xs'.map fr.get)) = some (t, ws, ls)) (hw : fr.writes ws = some fr') : SndW P e c a o t fr' := by
  have hcg := get_rel R hg
  have hca := gets_rel R hargs
  unfold callOp at h
  cases hf : callee (fr.get g') with
  | none => simp [hf, Fr.ask] at h
  | some q =>
    obtain ⟨f, first, caps⟩ := q
    simp only [hf] at h
    obtain ⟨fa, fb, hv, h1, h2⟩ := callee_rel hcg hf
    have hall : RelTs c (first.map T.one ++ xs'.map fr.get ++ caps.map T.one) (fa ++ cl.args.toList.map a.eval ++ fb) := relTs_append (relTs_append (relTs_one h1) hca) (relTs_one h2)
    have hexec0 : ∀ r, (callFunc f ⟨fa ++ cl.args.toList.map a.eval ++ fb⟩).run P c.w = r → (execOp a.eval o).run P c.w = r := by
      intro r hr
      rw [← hr]
      have e1 : (#[] : Array Value) ++ (⟨fa⟩ ++ cl.args.map a.eval) ++ (⟨fb⟩ : Array Value) = ⟨fa ++ cl.args.toList.map a.eval ++ fb⟩ := by
        apply Array.ext'; simp
      simp only [Array.empty_append] at e1
      simp only [execOp, ho, resolve, hcl, hv, Deferred.ofValue, Sem.run_bind, Sem.run_pure, Result.andThen_ok, invoke, e1]
    generalize hal : first.map T.one ++ xs'.map fr.get ++ caps.map T.one = all at h hall
    generalize fa ++ cl.args.toList.map a.eval ++ fb = vals at hall hexec0
    split at h
    · rename_i p hp
      obtain ⟨h, _⟩ := ask_done h
      cases hpa : p all with
      | none => simp [hpa] at h
      | some t' =>
        simp only [hpa, Option.map_some, Option.some.injEq, Prod.mk.injEq] at h
        obtain ⟨rfl, rfl⟩ := h
        obtain ⟨v, hr, ht⟩ := E f p hp all t' hpa c vals hall
        simp only [Fr.writes, Option.some.injEq] at hw
        subst hw
        intro K Q hk
        exact wp_of_runs (.inl (hexec0 _ hr)) (hk v c (CxLe.refl c) R ht)
    · have hexec : Enters P f → (execOp a.eval o).run P c.w = .ok (.enter f ⟨vals⟩) c.w := fun he => hexec0 _ (run_callFunc he ⟨vals⟩ c.w)
      split at h
      · -- the list is taken over
        simp only [Fr.ask, Fr.looks] at h
        cases hd : fr.look (.home d) with
        | none => simp [hd] at h
        | some ao =>
          simp only [hd] at h
          split at h
          · cases h
          · rename_i t' ws' ls' hask
            simp only [Option.some.injEq, Prod.mk.injEq] at h
            obtain ⟨rfl, rfl, _⟩ := h
            obtain ⟨ks, obs, k1, k2, k3, k4⟩ := gather_done hask
            unfold callEndA at k4
            cases hhi : handIn fr.n ks ks obs with
            | none => simp [hhi] at k4
            | some fo =>
              simp only [hhi] at k4
              have H := Handing.mk' (c := c) k2 k3 hhi
              cases hcall : call true f (all.map (trT ks)) fo with
              | none => simp [hcall] at k4
              | some q =>
                obtain ⟨r, fo'⟩ := q
                simp only [hcall] at k4
                cases hb : handBack fr.n ks ks obs fo' with
                | none => simp [hb] at k4
                | some wb =>
                  cases hx : fo'[ks.length]? with
                  | none => simp [hb, hx] at k4
                  | some ox =>
                    simp only [hb, hx] at k4
                    cases hxs : toVs ox.cs with
                    | none => simp [hxs] at k4
                    | some xs =>
                      simp only [hxs] at k4
                      split at k4
                      · rename_i hc
                        obtain ⟨hc1, hc2, hc3⟩ := hc
                        cases hbt : backT (ks ++ [.loc d (ao.g + 1)]) r with
                        | none => simp [hbt] at k4
                        | some x =>
                          simp only [hbt, Option.map_some, Option.some.injEq, Prod.mk.injEq] at k4
                          obtain ⟨rfl, rfl⟩ := k4
                          obtain ⟨f1, w1, w2⟩ := writes_append hw
                          obtain ⟨⟨p1, p2, p3, p4⟩, p5, p6⟩ := back_writes hb k2 (H.low c) (H.pw c) w1
                          obtain ⟨q1, q2, q3, q4, q5, q6⟩ := write_setb_all (writes_one w2)
                          have hdk : ∀ k ∈ ks, k.at ≠ .home d := fun k hk => by
                            have := List.all_eq_true.1 hc3 k hk
                            simpa using this
                          have hdt : ∀ k ∈ ks, Loc.home (tokH fr.n k.at) ≠ .home d := fun k hk e => by
                            have := tok_ge (n := fr.n) k (H.low c k hk)
                            simp only [Loc.home.injEq] at e
                            omega
                          have B : Back fr fr' fr.n ks fo' (some (d, ⟨ao.g + 1, ox.ty, xs.map C.v⟩)) := {
                            tm := by rw [q2, p2]
                            bl := by rw [q3, p3]
                            fl := by rw [q4, p4]
                            oth := fun l h1 h2 => by rw [q6 l (h2 d _ rfl), p5 l h1]
                            at' := fun i k hi => by
                              obtain ⟨o', t', x', s1, s2, s3, s4, s5, s6⟩ := p6 i k hi
                              have hk := List.mem_of_getElem? hi
                              exact ⟨o', t', x', s1, s2, s3, s4, by rw [q6 _ (hdk k hk)]; exact s5, by rw [q6 _ (hdt k hk)]; exact s6⟩
                            adl := fun d' q' hq' => by
                              simp only [Option.some.injEq, Prod.mk.injEq] at hq'
                              obtain ⟨rfl, rfl⟩ := hq'
                              exact ⟨q5, hc2, hdk, ao, ox, xs, hd, hx, hxs, rfl⟩ }
                          refine wp_enter R G ho hall hexec H (fun k hk => k1 k (mem_dedup.2 hk)) hcall B fun c2 O R2 v hr => ?_
                          refine backT_rel (hkeys_of R H O) (fun j k hj => ?_) r x v hr hbt
                          rcases Nat.lt_or_ge j ks.length with hlt | hge
                          · rw [List.getElem?_append_left hlt] at hj
                            exact hkeys_of R H O j k hj
                          · rw [List.getElem?_append_right hge] at hj
                            have hj0 : j - ks.length = 0 := by
                              have := (List.getElem?_eq_some_iff.1 hj).1
                              simp only [List.length_cons, List.length_nil] at this
                              omega
                            rw [hj0] at hj
                            simp only [List.getElem?_cons_zero, Option.some.injEq] at hj
                            subst hj
                            have hjj : j = ks.length := by omega
                            subst hjj
                            have hgd : c.gen d = ao.g := by simp only [Fr.look] at hd; rw [R.gen]; exact Fr.ob_loc hd rfl
                            simp only [Key.le, Key.ok, Key.blk]
                            rw [out_gen_ad rfl, out_β_ad rfl, hgd]
                            exact ⟨Nat.le_refl _, fun _ => rfl⟩
                      · cases k4
      · split at h
        · rename_i hemp
          simp only [List.isEmpty_iff] at hemp
          obtain ⟨h, _⟩ := ask_done h
          unfold callEnd at h
          simp only [handIn] at h
          cases hcall : call false f (all.map (trT [])) [] with
          | none => simp [hcall] at h
          | some q =>
            obtain ⟨r, fo'⟩ := q
            simp only [hcall, handBack] at h
            split at h
            · rename_i hl0
              cases hbt : backT [] r with
              | none => simp [hbt] at h
              | some x =>
                simp only [hbt, Option.map_some, Option.some.injEq, Prod.mk.injEq] at h
                obtain ⟨rfl, rfl⟩ := h
                simp only [Fr.writes, Option.some.injEq] at hw
                subst hw
                have B : Back fr fr fr.n [] fo' none := ⟨rfl, rfl, rfl, fun _ _ _ => rfl, by simp, by simp⟩
                refine wp_enter R G ho hall hexec empty_handing (fun k hk => ?_) hcall B fun c2 O R2 v hr => ?_
                · rw [← hemp]; exact mem_dedup.2 hk
                · exact backT_rel (by simp) (by simp) r x v hr hbt
            · cases h
        · obtain ⟨ks, obs, k1, k2, k3, k4⟩ := gather_done h
          unfold callEnd at k4
          cases hhi : handIn fr.n ks ks obs with
          | none => simp [hhi] at k4
          | some fo =>
            simp only [hhi] at k4
            have H := Handing.mk' (c := c) k2 k3 hhi
            cases hcall : call false f (all.map (trT ks)) fo with
            | none => simp [hcall] at k4
            | some q =>
              obtain ⟨r, fo'⟩ := q
              simp only [hcall] at k4
              cases hb : handBack fr.n ks ks obs fo' with
              | none => simp [hb] at k4
              | some wb =>
                simp only [hb] at k4
                split at k4
                · cases hbt : backT ks r with
                  | none => simp [hbt] at k4
                  | some x =>
                    simp only [hbt, Option.map_some, Option.some.injEq, Prod.mk.injEq] at k4
                    obtain ⟨rfl, rfl⟩ := k4
                    obtain ⟨⟨p1, p2, p3, p4⟩, p5, p6⟩ := back_writes hb k2 (H.low c) (H.pw c) hw
                    have B : Back fr fr' fr.n ks fo' none := ⟨p2, p3, p4, fun l h1 _ => p5 l h1, p6, by simp⟩
                    refine wp_enter R G ho hall hexec H (fun k hk => k1 k (mem_dedup.2 hk)) hcall B fun c2 O R2 v hr => ?_
                    exact backT_rel (hkeys_of R H O) (hkeys_of R H O) r x v hr hbt
                · cases k4

end
end Go.Dev

/- The operations, all together. -/
namespace Go.Dev
open Go

variable {P : Program}

section
variable {e : Ent} {c : Cx} {fr fr' : Fr} {a : Act} {o : Oper}

theorem done_map {x : Option T} {t : T} {ws : List W} {ls : List Loc} (h : fr.ask (.done (x.map fun t => (t, ([] : List W)))) = some (t, ws, ls)) : x.map (fun t => (t, ([] : List W))) = some (t, ws) := (ask_done h).1

set_option maxHeartbeats 1000000 in
theorem snd_conv_op (R : RelFr e c fr a.tmps) {pol : Pol} {s d : TypeId} {x : Operand} {x' : Opd} {ext : Ext} {call : CallF} {dop : DOp} {dd : DOper} (ho : o.op = .convert s d x) (hx : cOpd x = some x') (hc : cConv P pol s d x' = some dop) (hop : dd.op = dop) {t : T} {ws : List W} {ls : List Loc}
    (h : fr.ask (act ext call fr.n dd fr.get) = some (t, ws, ls)) : Snd P e c fr a o t ws := by
  unfold act at h
  rw [hop] at h
  unfold cConv at hc
  split at hc
  · rename_i h1 h2
    simp only [Option.some.injEq] at hc
    subst hc
    exact snd_conv R ho hx (.inl ⟨_, _, h1, h2, rfl⟩) (ask_done h).1
  · rename_i h1 h2
    simp only [Option.some.injEq] at hc
    subst hc
    exact snd_conv R ho hx (.inr (.inl ⟨_, _, h1, h2, rfl⟩)) (ask_done h).1
  · rename_i h1 h2
    simp only [Option.some.injEq] at hc
    subst hc
    exact snd_conv R ho hx (.inr (.inr (.inl ⟨_, _, h1, h2, rfl⟩))) (ask_done h).1
  · rename_i h1 h2
    split at hc
    · rename_i h3
      simp only [Option.some.injEq] at hc
      subst hc
      exact snd_conv R ho hx (.inr (.inr (.inr ⟨_, h1, h2, h3, rfl⟩))) (ask_done h).1
    · cases hc
  · rename_i t' h1 h2
    split at hc
    · rename_i hk
      obtain ⟨k1, k2, k3⟩ := hk
      simp only [Option.some.injEq] at hc
      subst hc
      obtain ⟨i, hi⟩ := Option.isSome_iff_exists.1 k2
      refine snd_pcast R ho hx (.inl ⟨t', i, h1, h2, hi, by rw [← cellsOf_info hi]; exact k1, fun q hq => ?_⟩) h
      have := List.all_eq_true.1 k3 q hq
      simp only [Bool.and_eq_true, decide_eq_true_eq, bne_iff_ne] at this
      exact this
    · cases hc
  · rename_i u h1 h2
    split at hc
    · rename_i hk
      obtain ⟨k1, k2, k3⟩ := hk
      simp only [Option.some.injEq] at hc
      subst hc
      obtain ⟨i, hi⟩ := Option.isSome_iff_exists.1 k2
      refine snd_pcast R ho hx (.inr ⟨u, i, h1, h2, hi, by rw [← cellsOf_info hi]; exact k1, fun q hq => ?_⟩) h
      have := List.all_eq_true.1 k3 q hq
      simp only [Bool.and_eq_true, decide_eq_true_eq, bne_iff_ne] at this
      exact ⟨this.1.1, this.1.2, this.2⟩
    · cases hc
  · rename_i e1 e2 h1 h2
    simp only [Option.ite_none_right_eq_some] at hc
    obtain ⟨⟨k1, k2⟩, hc⟩ := hc
    cases hi : P.info? e2 with
    | none => simp [hi] at hc
    | some i =>
      simp only [hi, Option.map_some, Option.some.injEq] at hc
      subst hc
      have hsd : s = d := by simpa using k1
      subst hsd
      have hu : P.underlying e2 = some (.int .u8) := by
        revert k2
        generalize P.underlying e2 = q
        intro k2
        split at k2
        · rfl
        · cases k2
      exact snd_pub (u := s) R ho hx h2 hu hi h
  · cases hc

theorem sliceE_some {t : TypeId} {el : TypeId} {i : TypeInfo} (h : sliceE P t = some (el, i)) : P.underlying t = some (.slice el) ∧ P.info? el = some i := by
  unfold sliceE at h
  split at h
  · rename_i e' h1
    cases hi : P.info? e' with
    | none => simp [hi] at h
    | some i' =>
      simp only [hi, Option.map_some, Option.some.injEq, Prod.mk.injEq] at h
      obtain ⟨rfl, rfl⟩ := h
      exact ⟨h1, hi⟩
  · cases h

theorem cOpds_one {x : Operand} {ys : List Opd} (h : cOpds [x] = some ys) : ∃ y, cOpd x = some y ∧ ys = [y] := by
  simp only [cOpds] at h
  split at h
  · rename_i y zs h1 h2
    simp only [Option.some.injEq] at h h2
    subst h2
    exact ⟨y, h1, h.symm⟩
  · cases h

theorem cOpds_inv {xs : List Operand} : ∀ {ys : List Opd}, cOpds xs = some ys → ys.length = xs.length := by
  induction xs with
  | nil => intro ys h; simp only [cOpds, Option.some.injEq] at h; subst h; rfl
  | cons x xs ih =>
    intro ys h
    simp only [cOpds] at h
    split at h
    · rename_i y zs h1 h2
      simp only [Option.some.injEq] at h
      subst h
      simp [ih h2]
    · cases h

theorem cOpds_1 {xs : List Operand} {y : Opd} (h : cOpds xs = some [y]) : ∃ x, xs = [x] ∧ cOpd x = some y := by
  have := cOpds_inv h
  match xs, this with
  | [x], _ => obtain ⟨y', h1, h2⟩ := cOpds_one h; cases h2; exact ⟨x, rfl, h1⟩

theorem cOpds_2 {xs : List Operand} {y z : Opd} (h : cOpds xs = some [y, z]) : ∃ u v, xs = [u, v] ∧ cOpd u = some y ∧ cOpd v = some z := by
  have := cOpds_inv h
  match xs, this with
  | [u, v], _ =>
    simp only [cOpds] at h
    split at h
    · rename_i y' zs h1 h2
      simp only [Option.some.injEq, List.cons.injEq] at h
      obtain ⟨rfl, h⟩ := h
      subst h
      split at h2
      · rename_i y2 zs2 h3 h4
        simp only [Option.some.injEq, List.cons.injEq] at h2
        obtain ⟨rfl, _⟩ := h2
        exact ⟨u, v, rfl, h1, h3⟩
      · cases h2
    · cases h

set_option maxHeartbeats 2000000 in
theorem snd_call_op (R : RelFr e c fr a.tmps) {pol : Pol} {cl : Call} {ext : Ext} {call : CallF} (G : Good P call) (E : ExtOk P ext) {dop : DOp} {dd : DOper} (ho : o.op = .call cl) (hc : cCall P pol o.dst cl = some dop) (hop : dd.op = dop) (hdst : dd.dst = o.dst) {t : T} {ws : List W} {ls : List Loc}
    (h : fr.ask (act ext call fr.n dd fr.get) = some (t, ws, ls)) (hw : fr.writes ws = some fr') : SndW P e c a o t fr' := by
  unfold act at h
  rw [hop] at h
  unfold cCall at hc
  cases hargs : cOpds cl.args.toList with
  | none => simp [hargs] at hc
  | some args =>
    simp only [hargs] at hc
    split at hc
    · rename_i f hcl
      cases hf : cOpd f with
      | none => simp [hf] at hc
      | some f' =>
        simp only [hf, Option.map_some, Option.some.injEq] at hc
        subst hc
        exact wp_call R G E ho hcl hf hargs h hw
    · cases hc
    · rename_i b hcl
      split at hc
      · -- len
        rename_i t' x hty
        obtain ⟨x0, hx0, hx1⟩ := cOpds_1 hargs
        split at hc
        · rename_i hu
          simp only [Option.some.injEq] at hc
          subst hc
          exact (snd_lenS R ho hcl hx0 hty hu hx1 (ask_done h).1).toW hw
        · rename_i el hu
          simp only [Option.some.injEq] at hc
          subst hc
          exact (snd_lenL R ho hcl hx0 hty hu hx1 (ask_done h).1).toW hw
        · cases hc
      · -- append
        rename_i t' u x y hty
        obtain ⟨x0, y0, hx0, hx1, hy1⟩ := cOpds_2 hargs
        split at hc
        · rename_i el i el' h1 h2
          obtain ⟨k1, k2⟩ := sliceE_some h1
          split at hc
          · rename_i z hz
            split at hc
            · rename_i hk
              obtain ⟨l1, l2, l3⟩ := hk
              simp only [Option.some.injEq] at hc
              subst hc
              rw [hdst] at h
              exact (snd_append R ho hcl hx0 hty k1 (.inl ⟨_, h2⟩) k2 hz l1 l2 l3 hx1 hy1 h).toW hw
            · cases hc
          · cases hc
        · rename_i el i h1 h2
          obtain ⟨k1, k2⟩ := sliceE_some h1
          split at hc
          · rename_i z hz
            split at hc
            · rename_i hk
              obtain ⟨l1, l2, l3⟩ := hk
              simp only [Option.some.injEq] at hc
              subst hc
              rw [hdst] at h
              exact (snd_append R ho hcl hx0 hty k1 (.inr h2) k2 hz l1 l2 l3 hx1 hy1 h).toW hw
            · cases hc
          · cases hc
        · cases hc
      · -- clear
        rename_i t' x hty
        obtain ⟨x0, hx0, hx1⟩ := cOpds_1 hargs
        split at hc
        · rename_i el i h1
          obtain ⟨k1, k2⟩ := sliceE_some h1
          split at hc
          · rename_i hs
            cases hz : zeroC P el with
            | none => simp [hz] at hc
            | some zs =>
              simp only [hz, Option.map_some, Option.some.injEq] at hc
              subst hc
              exact (snd_clear R ho hcl hx0 hty k1 k2 hs hz hx1 h).toW hw
          · cases hc
        · cases hc
      · -- real
        simp only [Option.some.injEq] at hc
        subst hc
        exact (snd_pureBi R ho hcl rfl hargs (ask_done h).1).toW hw
      · simp only [Option.some.injEq] at hc
        subst hc
        exact (snd_pureBi R ho hcl rfl hargs (ask_done h).1).toW hw
      · simp only [Option.some.injEq] at hc
        subst hc
        exact (snd_pureBi R ho hcl rfl hargs (ask_done h).1).toW hw
      · simp only [Option.some.injEq] at hc
        subst hc
        exact (snd_pureBi R ho hcl rfl hargs (ask_done h).1).toW hw
      · simp only [Option.some.injEq] at hc
        subst hc
        exact (snd_pureBi R ho hcl rfl hargs (ask_done h).1).toW hw
      · -- the bytes of a list
        obtain ⟨x0, hx0, hx1⟩ := cOpds_1 hargs
        simp only [Option.some.injEq] at hc
        subst hc
        exact (snd_sdata R ho hcl hx0 hx1 h).toW hw
      · -- bytes as a string
        rename_i t' rest x y hty
        obtain ⟨x0, y0, hx0, hx1, hy1⟩ := cOpds_2 hargs
        split at hc
        · rename_i el hu
          split at hc
          · rename_i hk
            simp only [Option.some.injEq] at hc
            subst hc
            exact (snd_ustr R ho hcl hx0 hty hu hk.1 hx1 hy1 h).toW hw
          · cases hc
        · cases hc
      · cases hc

theorem cOptOpd_none {y : Option Opd} (h : cOptOpd none = some y) : y = none := by simp only [cOptOpd, Option.some.injEq] at h; exact h.symm

set_option maxHeartbeats 2000000 in
theorem snd_op (R : RelFr e c fr a.tmps) {pol : Pol} {ext : Ext} {call : CallF} (G : Good P call) (E : ExtOk P ext) {dop : DOp} {dd : DOper} (hc : cOp P pol o = some dop) (hop : dd.op = dop) (hdst : dd.dst = o.dst) {t : T} {ws : List W} {ls : List Loc}
    (h : fr.ask (act ext call fr.n dd fr.get) = some (t, ws, ls)) (hw : fr.writes ws = some fr') : SndW P e c a o t fr' := by
  unfold cOp at hc
  split at hc
  · -- move
    rename_i x ho
    cases hx : cOpd x with
    | none => simp [hx] at hc
    | some x' =>
      simp only [hx, Option.map_some, Option.some.injEq] at hc
      subst hc
      unfold act at h
      rw [hop] at h
      obtain ⟨h, _⟩ := ask_done h
      simp only [Option.some.injEq, Prod.mk.injEq] at h
      obtain ⟨rfl, rfl⟩ := h
      exact (snd_move R (.inl ho) hx).toW hw
  · rename_i x ho
    cases hx : cOpd x with
    | none => simp [hx] at hc
    | some x' =>
      simp only [hx, Option.map_some, Option.some.injEq] at hc
      subst hc
      unfold act at h
      rw [hop] at h
      obtain ⟨h, _⟩ := ask_done h
      simp only [Option.some.injEq, Prod.mk.injEq] at h
      obtain ⟨rfl, rfl⟩ := h
      exact (snd_move R (.inr ho) hx).toW hw
  · rename_i x y z ho
    split at hc
    · rename_i x' y' z' hx hy hz
      simp only [Option.some.injEq] at hc
      subst hc
      unfold act at h
      rw [hop] at h
      exact (snd_pick R ho hx hy hz (ask_done h).1).toW hw
    · cases hc
  · -- alloc
    rename_i ty ho
    cases hz : zeroC P ty with
    | none => simp [hz] at hc
    | some zs =>
      simp only [hz, Option.map_some, Option.some.injEq] at hc
      subst hc
      unfold act at h
      rw [hop, hdst] at h
      cases hd : o.dst with
      | none => simp [hd, Fr.ask] at h
      | some d => simp only [hd] at h; exact (snd_alloc R ho hz h).toW hw
  · rename_i ty x ho
    cases hx : cOpd x with
    | none => simp [hx] at hc
    | some x' =>
      simp only [hx, Option.map_some, Option.some.injEq] at hc
      subst hc
      unfold act at h
      rw [hop, hdst] at h
      cases hd : o.dst with
      | none => simp [hd, Fr.ask] at h
      | some d => simp only [hd] at h; exact (snd_box R ho hx h).toW hw
  · -- build
    rename_i ty ps ho
    split at hc
    · rename_i fs zs hu hz
      split at hc
      · rename_i hall
        cases hp : cParts P fs ps.toList with
        | none => simp [hp] at hc
        | some qs =>
          simp only [hp, Option.map_some, Option.some.injEq] at hc
          subst hc
          unfold act at h
          rw [hop] at h
          exact (snd_build R ho hu hz hp (fun f hf => by have := List.all_eq_true.1 hall f hf; exact this) (ask_done h).1).toW hw
      · cases hc
    · cases hc
  · rename_i ty n ps ho
    split at hc
    · rename_i el i xs hs hp
      obtain ⟨k1, k2⟩ := sliceE_some hs
      split at hc
      · rename_i hk
        obtain ⟨l1, l2, l3, l4⟩ := hk
        obtain ⟨zs, hz⟩ := Option.isSome_iff_exists.1 l4
        simp only [Option.some.injEq] at hc
        subst hc
        unfold act at h
        rw [hop, hdst] at h
        exact (snd_bsl R ho k1 k2 hp l1 l3 hz h).toW hw
      · cases hc
    · cases hc
  · -- load
    rename_i ty x ho
    split at hc
    · rename_i sz x' hs hx
      split at hc
      · rename_i h0
        simp only [Option.some.injEq] at hc
        subst hc
        unfold act at h
        rw [hop] at h
        exact (snd_load R ho hs h0 hx h).toW hw
      · cases hc
    · cases hc
  · rename_i ty x y ho
    split at hc
    · rename_i i x' y' hi hx hy
      split at hc
      · rename_i h0
        simp only [Option.some.injEq] at hc
        subst hc
        unfold act at h
        rw [hop] at h
        exact (snd_store R ho hi h0 hx hy h).toW hw
      · cases hc
    · cases hc
  · rename_i x ho
    cases hx : cOpd x with
    | none => simp [hx] at hc
    | some x' =>
      simp only [hx, Option.map_some, Option.some.injEq] at hc
      subst hc
      unfold act at h
      rw [hop] at h
      exact (snd_nilck R ho hx (ask_done h).1).toW hw
  · -- two operands
    rename_i op ty x y ty' ho
    split at hc
    · rename_i x' y' hx hy
      split at hc
      · simp only [Option.some.injEq] at hc
        subst hc
        unfold act at h
        rw [hop] at h
        exact (snd_bin R ho hx hy (done_map h)).toW hw
      · by_cases hb : P.underlying ty = some .bool
        · simp only [hb, if_true] at hc
          split at hc
          · simp only [Option.some.injEq] at hc
            subst hc
            unfold act at h
            rw [hop] at h
            exact (snd_beq (neq := false) R (by simpa using ho) hb hx hy (ask_done h).1).toW hw
          · simp only [Option.some.injEq] at hc
            subst hc
            unfold act at h
            rw [hop] at h
            exact (snd_beq (neq := true) R (by simpa using ho) hb hx hy (ask_done h).1).toW hw
          · cases hc
        · have hc' : (cPeq P op ty).map (fun b => DOp.peq b x' y') = some dop := by
            split at hc
            · rename_i hm
              exact absurd hm hb
            · exact hc
          cases hp : cPeq P op ty with
          | none => simp [hp] at hc'
          | some b =>
            simp only [hp, Option.map_some, Option.some.injEq] at hc'
            subst hc'
            unfold cPeq at hp
            split at hp
            · rename_i el hu
              split at hp
              · rename_i hk
                obtain ⟨k1, k2⟩ := hk
                obtain ⟨i, hi⟩ := Option.isSome_iff_exists.1 k1
                rw [cellsOf_info hi] at k2
                unfold act at h
                rw [hop] at h
                split at hp
                · simp only [Option.some.injEq] at hp
                  subst hp
                  exact (snd_peq (neq := false) R (by simpa using ho) hu hi k2 hx hy h).toW hw
                · simp only [Option.some.injEq] at hp
                  subst hp
                  exact (snd_peq (neq := true) R (by simpa using ho) hu hi k2 hx hy h).toW hw
                · cases hp
              · cases hp
            · cases hp
    · cases hc
  · rename_i op ty x ho
    cases hx : cOpd x with
    | none => simp [hx] at hc
    | some x' =>
      simp only [hx, Option.map_some, Option.some.injEq] at hc
      subst hc
      unfold act at h
      rw [hop] at h
      exact (snd_un R ho hx (done_map h)).toW hw
  · -- conversions
    rename_i s d x ho
    split at hc
    · rename_i x' hx
      exact (snd_conv_op R ho hx hc hop h).toW hw
    · cases hc
  · rename_i fn xs ys ho
    split at hc
    · rename_i xs' ys' hx hy
      simp only [Option.some.injEq] at hc
      subst hc
      unfold act at h
      rw [hop] at h
      exact (snd_mkfn R ho hx hy (ask_done h).1).toW hw
    · cases hc
  · -- parts
    rename_i ty x lo hi mx ho
    split at hc
    · rename_i x' lo' hi' mx' hx hlo hhi hmx
      split at hc
      · rename_i hu
        split at hc
        · rename_i hm
          simp only [Option.some.injEq] at hc
          subst hc
          unfold act at h
          rw [hop] at h
          have hmx0 : mx = none := by
            cases mx with
            | none => rfl
            | some q =>
              simp only [cOptOpd] at hmx
              cases hq : cOpd q with
              | none => simp [hq] at hmx
              | some q' =>
                simp only [hq, Option.map_some, Option.some.injEq] at hmx
                subst hmx
                simp at hm
          subst hmx0
          exact (snd_sliceS R ho hu hx hlo hhi (ask_done h).1).toW hw
        · cases hc
      · rename_i el hu
        cases hi' : P.info? el with
        | none => simp [hi'] at hc
        | some q =>
          simp only [hi', Option.map_some, Option.some.injEq] at hc
          subst hc
          unfold act at h
          rw [hop] at h
          exact (snd_sliceL R ho hu hi' hx hlo hhi hmx (ask_done h).1).toW hw
      · cases hc
    · cases hc
  · rename_i ty x f ho
    split at hc
    · rename_i fs x' hu hx
      split at hc
      · rename_i fd hf
        split at hc
        · rename_i i hi
          split at hc
          · rename_i h0
            simp only [Option.some.injEq] at hc
            subst hc
            unfold act at h
            rw [hop] at h
            exact (snd_faddr R ho hu hf hi h0 hx (ask_done h).1).toW hw
          · cases hc
        · cases hc
      · cases hc
    · cases hc
  · rename_i ty x i ho
    split at hc
    · rename_i el q x' i' hs hx hi
      obtain ⟨k1, k2⟩ := sliceE_some hs
      split at hc
      · simp only [Option.some.injEq] at hc
        subst hc
        unfold act at h
        rw [hop] at h
        exact (snd_iaddr R ho k1 k2 hx hi (ask_done h).1).toW hw
      · cases hc
    · cases hc
  · rename_i ty x i ho
    split at hc
    · rename_i x' i' hu hx hi
      simp only [Option.some.injEq] at hc
      subst hc
      unfold act at h
      rw [hop] at h
      exact (snd_index R ho hu hx hi (ask_done h).1).toW hw
    · cases hc
  · rename_i x i ho
    cases hx : cOpd x with
    | none => simp [hx] at hc
    | some x' =>
      simp only [hx, Option.map_some, Option.some.injEq] at hc
      subst hc
      unfold act at h
      rw [hop] at h
      exact (snd_extract R ho hx (ask_done h).1).toW hw
  · rename_i cl ho
    exact snd_call_op R G E ho hc hop hdst h hw
  · cases hc

end
end Go.Dev

/- Two operations that leave each other alone may change places. -/
namespace Go.Dev
open Go

section
variable {ext : Ext} {call : CallF}

/-! ### What is looked at -/

theorem looks_congr' {fr fr' : Fr} : ∀ {ls : List Loc}, (∀ l ∈ ls, fr'.look l = fr.look l) → fr'.looks ls = fr.looks ls := looks_congr

theorem ask_congr {fr fr' : Fr} : ∀ {r : Req} {t : T} {ws : List W} {ls : List Loc}, fr.ask r = some (t, ws, ls) → (∀ l ∈ ls, fr'.look l = fr.look l) → fr'.ask r = some (t, ws, ls)
  | .done none, _, _, _, h, _ => by simp [Fr.ask] at h
  | .done (some (t', ws')), t, ws, ls, h, _ => by simpa [Fr.ask] using h
  | .rd ls0 k, t, ws, ls, h, hl => by
    simp only [Fr.ask] at h ⊢
    cases h1 : fr.looks ls0 with
    | none => simp [h1] at h
    | some obs =>
      simp only [h1] at h
      cases h2 : fr.ask (k obs) with
      | none => simp [h2] at h
      | some q =>
        obtain ⟨t', ws', ls'⟩ := q
        simp only [h2, Option.some.injEq, Prod.mk.injEq] at h
        obtain ⟨rfl, rfl, rfl⟩ := h
        rw [looks_congr' (fr := fr) (fun l hm => hl l (by simp [hm])), h1]
        simp only
        rw [ask_congr h2 (fun l hm => hl l (by simp [hm]))]

/-! ### What is written -/

theorem write_look {fr fr' : Fr} {w : W} (h : fr.write w = some fr') : fr'.n = fr.n ∧ fr'.tm = fr.tm ∧ ∀ l, l ≠ w.loc → fr'.look l = fr.look l := by
  cases w with
  | cells l off cs =>
    cases l with
    | home a =>
      simp only [Fr.write] at h
      split at h
      · split at h
        · simp only [Option.some.injEq] at h
          subst h
          refine ⟨rfl, rfl, fun m hm => ?_⟩
          cases m with
          | home b => simp only [Fr.look]; rw [List.getElem?_set_ne (fun k => hm (by simp only [W.loc, k]))]
          | fo b => rfl
        · cases h
      · cases h
    | fo a =>
      simp only [Fr.write] at h
      split at h
      · split at h
        · simp only [Option.some.injEq] at h
          subst h
          refine ⟨rfl, rfl, fun m hm => ?_⟩
          cases m with
          | home b => rfl
          | fo b => simp only [Fr.look]; rw [List.getElem?_set_ne (fun k => hm (by simp only [W.loc, k]))]
        · cases h
      · cases h
  | setb a q =>
    obtain ⟨h1, h2, _, _, _, h6⟩ := write_setb_all h
    exact ⟨h1, h2, h6⟩

theorem writes_look : ∀ {ws : List W} {fr fr' : Fr}, fr.writes ws = some fr' → fr'.n = fr.n ∧ fr'.tm = fr.tm ∧ ∀ l, (∀ w ∈ ws, w.loc ≠ l) → fr'.look l = fr.look l
  | [], fr, fr', h => by simp only [Fr.writes, Option.some.injEq] at h; subst h; exact ⟨rfl, rfl, fun _ _ => rfl⟩
  | w :: ws, fr, fr', h => by
    simp only [Fr.writes] at h
    cases h1 : fr.write w with
    | none => simp [h1] at h
    | some f1 =>
      simp only [h1] at h
      obtain ⟨a1, a2, a3⟩ := write_look h1
      obtain ⟨b1, b2, b3⟩ := writes_look h
      exact ⟨by rw [b1, a1], by rw [b2, a2], fun l hl => by rw [b3 l (fun w hw => hl w (by simp [hw])), a3 l (fun e => hl w (by simp) e.symm)]⟩

theorem splice_comm {old x y : List C} {o p : Nat} (hx : o + x.length ≤ old.length) (hy : p + y.length ≤ old.length) (h : o + x.length ≤ p ∨ p + y.length ≤ o) : splice (splice old o x) p y = splice (splice old p y) o x := by
  apply List.ext_getElem?
  intro i
  have hx' : o + x.length ≤ (splice old p y).length := by rw [splice_length hy]; exact hx
  have hy' : p + y.length ≤ (splice old o x).length := by rw [splice_length hx]; exact hy
  rw [splice_get hy', splice_get hx', splice_get hx, splice_get hy]
  repeat' split
  all_goals first | rfl | omega

theorem setF_comm {l : List Ob} {i j : Nat} {a b : Ob} (h : i ≠ j) : (l.set i a).set j b = (l.set j b).set i a := List.set_comm a b h

theorem write_comm {fr f1 f2 : Fr} {x y : W} (h1 : fr.write x = some f1) (h2 : f1.write y = some f2) (ha : apartW x y = true) : ∃ g1, fr.write y = some g1 ∧ g1.write x = some f2 := by
  cases x with
  | setb a q =>
    obtain ⟨ha1, rfl⟩ := write_setb h1
    cases y with
    | setb b p =>
      obtain ⟨hb1, rfl⟩ := write_setb h2
      have hne : a ≠ b := by rintro rfl; simp [apartW, W.loc] at ha
      simp only [List.length_set] at hb1
      refine ⟨{ fr with bx := fr.bx.set b p }, by simp only [Fr.write, if_pos hb1], ?_⟩
      simp only [Fr.write, List.length_set, if_pos ha1, setF_comm hne]
    | cells l off cs =>
      cases l with
      | home b =>
        have hne : a ≠ b := by rintro rfl; simp [apartW, W.loc] at ha
        simp only [Fr.write, List.getElem?_set_ne hne] at h2 ⊢
        split at h2
        · rename_i o ho
          split at h2
          · rename_i hl
            simp only [Option.some.injEq] at h2
            subst h2
            simp only [if_pos hl]
            exact ⟨_, rfl, by simp only [List.length_set, if_pos ha1, setF_comm hne]⟩
          · cases h2
        · cases h2
      | fo b =>
        simp only [Fr.write] at h2 ⊢
        split at h2
        · rename_i o ho
          split at h2
          · rename_i hl
            simp only [Option.some.injEq] at h2
            subst h2
            simp only [if_pos hl]
            exact ⟨_, rfl, by simp only [if_pos ha1]⟩
          · cases h2
        · cases h2
  | cells l off cs =>
    cases l with
    | home a =>
      simp only [Fr.write] at h1
      split at h1
      · rename_i o ho
        split at h1
        · rename_i hl
          simp only [Option.some.injEq] at h1
          subst h1
          have halt := (List.getElem?_eq_some_iff.1 ho).1
          cases y with
          | setb b p =>
            have hne : a ≠ b := by rintro rfl; simp [apartW, W.loc] at ha
            obtain ⟨hb1, rfl⟩ := write_setb h2
            simp only [List.length_set] at hb1
            refine ⟨{ fr with bx := fr.bx.set b p }, by simp only [Fr.write, if_pos hb1], ?_⟩
            simp only [Fr.write, List.getElem?_set_ne (Ne.symm hne), ho, if_pos hl, setF_comm hne]
          | cells l' off' cs' =>
            cases l' with
            | fo b =>
              simp only [Fr.write] at h2 ⊢
              split at h2
              · rename_i o' ho'
                split at h2
                · rename_i hl'
                  simp only [Option.some.injEq] at h2
                  subst h2
                  simp only [if_pos hl']
                  exact ⟨_, rfl, by simp only [ho, if_pos hl]⟩
                · cases h2
              · cases h2
            | home b =>
              by_cases hne : a = b
              · subst hne
                simp only [apartW, bne_self_eq_false, Bool.false_or, Bool.or_eq_true, decide_eq_true_eq] at ha
                simp only [Fr.write, List.getElem?_set_self halt, splice_length hl] at h2
                split at h2
                · rename_i hl'
                  simp only [Option.some.injEq, List.set_set] at h2
                  subst h2
                  refine ⟨{ fr with bx := fr.bx.set a { o with cs := splice o.cs off' cs' } }, by simp only [Fr.write, ho, if_pos hl'], ?_⟩
                  simp only [Fr.write, List.getElem?_set_self halt, splice_length hl', if_pos hl, List.set_set, splice_comm hl hl' ha]
                · cases h2
              · simp only [Fr.write, List.getElem?_set_ne hne] at h2 ⊢
                split at h2
                · rename_i o' ho'
                  split at h2
                  · rename_i hl'
                    simp only [Option.some.injEq] at h2
                    subst h2
                    simp only [if_pos hl']
                    exact ⟨_, rfl, by simp only [List.getElem?_set_ne (Ne.symm hne), ho, if_pos hl, setF_comm hne]⟩
                  · cases h2
                · cases h2
        · cases h1
      · cases h1
    | fo a =>
      simp only [Fr.write] at h1
      split at h1
      · rename_i o ho
        split at h1
        · rename_i hl
          simp only [Option.some.injEq] at h1
          subst h1
          have halt := (List.getElem?_eq_some_iff.1 ho).1
          cases y with
          | setb b p =>
            obtain ⟨hb1, rfl⟩ := write_setb h2
            refine ⟨{ fr with bx := fr.bx.set b p }, by simp only [Fr.write, if_pos hb1], ?_⟩
            simp only [Fr.write, ho, if_pos hl]
          | cells l' off' cs' =>
            cases l' with
            | home b =>
              simp only [Fr.write] at h2 ⊢
              split at h2
              · rename_i o' ho'
                split at h2
                · rename_i hl'
                  simp only [Option.some.injEq] at h2
                  subst h2
                  simp only [if_pos hl']
                  exact ⟨_, rfl, by simp only [ho, if_pos hl]⟩
                · cases h2
              · cases h2
            | fo b =>
              by_cases hne : a = b
              · subst hne
                simp only [apartW, bne_self_eq_false, Bool.false_or, Bool.or_eq_true, decide_eq_true_eq] at ha
                simp only [Fr.write, List.getElem?_set_self halt, splice_length hl] at h2
                split at h2
                · rename_i hl'
                  simp only [Option.some.injEq, List.set_set] at h2
                  subst h2
                  refine ⟨{ fr with fo := fr.fo.set a { o with cs := splice o.cs off' cs' } }, by simp only [Fr.write, ho, if_pos hl'], ?_⟩
                  simp only [Fr.write, List.getElem?_set_self halt, splice_length hl', if_pos hl, List.set_set, splice_comm hl hl' ha]
                · cases h2
              · simp only [Fr.write, List.getElem?_set_ne hne] at h2 ⊢
                split at h2
                · rename_i o' ho'
                  split at h2
                  · rename_i hl'
                    simp only [Option.some.injEq] at h2
                    subst h2
                    simp only [if_pos hl']
                    exact ⟨_, rfl, by simp only [List.getElem?_set_ne (Ne.symm hne), ho, if_pos hl, setF_comm hne]⟩
                  · cases h2
                · cases h2
        · cases h1
      · cases h1

theorem writes_cons_iff {fr fr' : Fr} {w : W} {ws : List W} : fr.writes (w :: ws) = some fr' ↔ ∃ f1, fr.write w = some f1 ∧ f1.writes ws = some fr' := by
  simp only [Fr.writes]
  cases h : fr.write w with
  | none => simp
  | some f1 => simp

/-- One write behind many. -/
theorem writes_comm1 {y : W} : ∀ {xs : List W} {fr f1 f2 : Fr}, fr.writes xs = some f1 → f1.write y = some f2 → (∀ x ∈ xs, apartW x y = true) → ∃ g1, fr.write y = some g1 ∧ g1.writes xs = some f2
  | [], fr, f1, f2, h1, h2, _ => by simp only [Fr.writes, Option.some.injEq] at h1; subst h1; exact ⟨f2, h2, rfl⟩
  | x :: xs, fr, f1, f2, h1, h2, ha => by
    obtain ⟨m, m1, m2⟩ := writes_cons_iff.1 h1
    obtain ⟨g, g1, g2⟩ := writes_comm1 m2 h2 (fun x' hx => ha x' (by simp [hx]))
    obtain ⟨k, k1, k2⟩ := write_comm m1 g1 (ha x (by simp))
    exact ⟨k, k1, writes_cons_iff.2 ⟨g, k2, g2⟩⟩

theorem writes_comm : ∀ {ys xs : List W} {fr f1 f2 : Fr}, fr.writes xs = some f1 → f1.writes ys = some f2 → (∀ x ∈ xs, ∀ y ∈ ys, apartW x y = true) → ∃ g1, fr.writes ys = some g1 ∧ g1.writes xs = some f2
  | [], xs, fr, f1, f2, h1, h2, _ => by simp only [Fr.writes, Option.some.injEq] at h2; subst h2; exact ⟨fr, rfl, h1⟩
  | y :: ys, xs, fr, f1, f2, h1, h2, ha => by
    obtain ⟨m, m1, m2⟩ := writes_cons_iff.1 h2
    obtain ⟨g, g1, g2⟩ := writes_comm1 h1 m1 (fun x hx => ha x hx y (by simp))
    obtain ⟨k, k1, k2⟩ := writes_comm g2 m2 (fun x hx y' hy => ha x hx y' (by simp [hy]))
    exact ⟨k, writes_cons_iff.2 ⟨g, g1, k1⟩, k2⟩

/-- The temporaries do not count. -/
theorem write_put {fr fr' : Fr} {w : W} (d : Option Nat) (t : T) (h : fr.write w = some fr') : (putT fr d t).write w = some (putT fr' d t) := by
  cases d with
  | none => exact h
  | some d =>
    cases w with
    | setb a q => obtain ⟨h1, rfl⟩ := write_setb h; simp only [putT, Fr.write]; exact if_pos h1
    | cells l off cs =>
      cases l <;>
      · simp only [Fr.write, putT] at h ⊢
        split at h
        · rename_i o ho
          split at h
          · rename_i hl
            simp only [Option.some.injEq] at h
            subst h
            simp only [ho, if_pos hl]
          · cases h
        · cases h

theorem writes_put (d : Option Nat) (t : T) : ∀ {ws : List W} {fr fr' : Fr}, fr.writes ws = some fr' → (putT fr d t).writes ws = some (putT fr' d t)
  | [], fr, fr', h => by simp only [Fr.writes, Option.some.injEq] at h ⊢; rw [h]
  | w :: ws, fr, fr', h => by
    obtain ⟨m, m1, m2⟩ := writes_cons_iff.1 h
    exact writes_cons_iff.2 ⟨_, write_put d t m1, writes_put d t m2⟩

/-! ### What an operation reads -/

theorem partsC_congr {get get' : Opd → T} : ∀ {ps : List (Nat × Nat × Opd)}, (∀ x ∈ ps.map (·.2.2), get x = get' x) → partsC get ps = partsC get' ps
  | [], _ => rfl
  | (off, sz, x) :: r, h => by
    simp only [partsC]
    rw [h x (by simp), partsC_congr (fun y hy => h y (by simp only [List.map_cons, List.mem_cons]; exact .inr hy))]

theorem map_get_congr {get get' : Opd → T} {xs : List Opd} (h : ∀ x ∈ xs, get x = get' x) : xs.map get = xs.map get' := List.map_congr_left h

theorem opt_get_congr {get get' : Opd → T} {x : Option Opd} (h : ∀ y ∈ x.toList, get y = get' y) : x.map get = x.map get' := by
  cases x with
  | none => rfl
  | some y => simp [h y (by simp)]

theorem act_congr {n : Nat} {o : DOper} {get get' : Opd → T} (h : ∀ x ∈ o.op.opds, get x = get' x) : act ext call n o get = act ext call n o get' := by
  unfold act
  cases hop : o.op with
  | mv x => rw [hop] at h; simp only [DOp.opds, List.mem_singleton, forall_eq] at h; simp only [h]
  | pick x y z => rw [hop] at h; simp only [DOp.opds, List.mem_cons, List.not_mem_nil, or_false, forall_eq_or_imp, forall_eq] at h; simp only [h.1, h.2.1, h.2.2]
  | alloc ty zs => rfl
  | box ty x => rw [hop] at h; simp only [DOp.opds, List.mem_singleton, forall_eq] at h; simp only [h]
  | build zs ps => rw [hop] at h; simp only [DOp.opds] at h; simp only [partsC_congr h]
  | bsl ty sz own xs => rw [hop] at h; simp only [DOp.opds] at h; simp only [map_get_congr h]
  | load sz x => rw [hop] at h; simp only [DOp.opds, List.mem_singleton, forall_eq] at h; simp only [h]
  | store sz x y => rw [hop] at h; simp only [DOp.opds, List.mem_cons, List.not_mem_nil, or_false, forall_eq_or_imp, forall_eq] at h; simp only [h.1, h.2]
  | nilck x => rw [hop] at h; simp only [DOp.opds, List.mem_singleton, forall_eq] at h; simp only [h]
  | bin op x y => rw [hop] at h; simp only [DOp.opds, List.mem_cons, List.not_mem_nil, or_false, forall_eq_or_imp, forall_eq] at h; simp only [h.1, h.2]
  | peq b x y => rw [hop] at h; simp only [DOp.opds, List.mem_cons, List.not_mem_nil, or_false, forall_eq_or_imp, forall_eq] at h; simp only [h.1, h.2]
  | beq b x y => rw [hop] at h; simp only [DOp.opds, List.mem_cons, List.not_mem_nil, or_false, forall_eq_or_imp, forall_eq] at h; simp only [h.1, h.2]
  | pub sz x => rw [hop] at h; simp only [DOp.opds, List.mem_singleton, forall_eq] at h; simp only [h]
  | un op x => rw [hop] at h; simp only [DOp.opds, List.mem_singleton, forall_eq] at h; simp only [h]
  | conv k x => rw [hop] at h; simp only [DOp.opds, List.mem_singleton, forall_eq] at h; simp only [h]
  | mkfn f xs ys =>
    rw [hop] at h
    simp only [DOp.opds, List.mem_append] at h
    simp only [map_get_congr (fun x hx => h x (.inl hx)), map_get_congr (fun x hx => h x (.inr hx))]
  | slice str sz x lo hi mx =>
    rw [hop] at h
    simp only [DOp.opds, List.mem_cons, List.mem_append] at h
    have hx := h x (.inl rfl)
    have h1 := opt_get_congr (x := lo) (fun y hy => h y (.inr (.inl (.inl hy))))
    have h2 := opt_get_congr (x := hi) (fun y hy => h y (.inr (.inl (.inr hy))))
    have h3 := opt_get_congr (x := mx) (fun y hy => h y (.inr (.inr hy)))
    cases str <;> simp only [hx, h1, h2, h3]
  | faddr off x => rw [hop] at h; simp only [DOp.opds, List.mem_singleton, forall_eq] at h; simp only [h]
  | iaddr sz x y => rw [hop] at h; simp only [DOp.opds, List.mem_cons, List.not_mem_nil, or_false, forall_eq_or_imp, forall_eq] at h; simp only [h.1, h.2]
  | index x y => rw [hop] at h; simp only [DOp.opds, List.mem_cons, List.not_mem_nil, or_false, forall_eq_or_imp, forall_eq] at h; simp only [h.1, h.2]
  | extract x i => rw [hop] at h; simp only [DOp.opds, List.mem_singleton, forall_eq] at h; simp only [h]
  | call f args =>
    rw [hop] at h
    simp only [DOp.opds, List.mem_cons] at h
    simp only [h f (.inl rfl), map_get_congr (fun x hx => h x (.inr hx))]
  | len str x => rw [hop] at h; simp only [DOp.opds, List.mem_singleton, forall_eq] at h; cases str <;> simp only [h]
  | append ty sz bytes own x y => rw [hop] at h; simp only [DOp.opds, List.mem_cons, List.not_mem_nil, or_false, forall_eq_or_imp, forall_eq] at h; simp only [h.1, h.2]
  | clear zs x => rw [hop] at h; simp only [DOp.opds, List.mem_singleton, forall_eq] at h; simp only [h]
  | pureBi b args => rw [hop] at h; simp only [DOp.opds] at h; simp only [map_get_congr h]
  | pcast al x => rw [hop] at h; simp only [DOp.opds, List.mem_singleton, forall_eq] at h; simp only [h]
  | sdata x => rw [hop] at h; simp only [DOp.opds, List.mem_singleton, forall_eq] at h; simp only [h]
  | ustr ty x y => rw [hop] at h; simp only [DOp.opds, List.mem_cons, List.not_mem_nil, or_false, forall_eq_or_imp, forall_eq] at h; simp only [h.1, h.2]

/-- What touches no variable, and what only looks. -/
def Req.quiet : Req → Prop
  | .done none => True
  | .done (some (_, ws)) => ws = []
  | .rd _ _ => False

def Req.looking : Req → Prop
  | .done none => True
  | .done (some (_, ws)) => ws = []
  | .rd _ k => ∀ obs, (k obs).looking

theorem quiet_ask {fr : Fr} {r : Req} (h : r.quiet) {t : T} {ws : List W} {ls : List Loc} (ha : fr.ask r = some (t, ws, ls)) : ws = [] ∧ ls = [] := by
  cases r with
  | done a =>
    cases a with
    | none => simp [Fr.ask] at ha
    | some q =>
      obtain ⟨t', ws'⟩ := q
      simp only [Req.quiet] at h
      simp only [Fr.ask, Option.some.injEq, Prod.mk.injEq] at ha
      exact ⟨by rw [← ha.2.1, h], ha.2.2.symm⟩
  | rd ls k => simp [Req.quiet] at h

theorem looking_ask {fr : Fr} : ∀ {r : Req}, r.looking → ∀ {t : T} {ws : List W} {ls : List Loc}, fr.ask r = some (t, ws, ls) → ws = []
  | .done none, _, t, ws, ls, ha => by simp [Fr.ask] at ha
  | .done (some (t', ws')), h, t, ws, ls, ha => by
    simp only [Req.looking] at h
    simp only [Fr.ask, Option.some.injEq, Prod.mk.injEq] at ha
    rw [← ha.2.1, h]
  | .rd ls0 k, h, t, ws, ls, ha => by
    simp only [Req.looking] at h
    simp only [Fr.ask] at ha
    cases h1 : fr.looks ls0 with
    | none => simp [h1] at ha
    | some obs =>
      simp only [h1] at ha
      cases h2 : fr.ask (k obs) with
      | none => simp [h2] at ha
      | some q =>
        obtain ⟨t', ws', ls'⟩ := q
        simp only [h2, Option.some.injEq, Prod.mk.injEq] at ha
        obtain ⟨_, rfl, _⟩ := ha
        exact looking_ask (h obs) h2

theorem quiet_map {x : Option T} : (Req.done (x.map fun t => (t, ([] : List W)))).quiet := by cases x <;> simp [Req.quiet]

theorem quiet_done {x : Ans} (h : ∀ t ws, x = some (t, ws) → ws = []) : (Req.done x).quiet := by
  cases x with
  | none => trivial
  | some q => exact h q.1 q.2 rfl

theorem looking_done {x : Ans} (h : ∀ t ws, x = some (t, ws) → ws = []) : (Req.done x).looking := by
  cases x with
  | none => trivial
  | some q => exact h q.1 q.2 rfl

theorem looking_one {l : Loc} {k : Ob → Ans} (h : ∀ q t ws, k q = some (t, ws) → ws = []) : (Req.one l k).looking := by
  intro obs
  show Req.looking (match obs with | [x] => .done (k x) | _ => .done none)
  split
  · exact looking_done (h _)
  · trivial

theorem quiet_looking {r : Req} (h : r.quiet) : r.looking := by
  cases r with
  | done x => cases x <;> exact h
  | rd ls k => simp [Req.quiet] at h

theorem map_nil {α : Type} {x : Option α} {f : α → T} {t : T} {ws : List W} (h : x.map (fun y => (f y, ([] : List W))) = some (t, ws)) : ws = [] := by
  cases x with
  | none => simp at h
  | some y => simp only [Option.map_some, Option.some.injEq, Prod.mk.injEq] at h; exact h.2.symm

theorem some_nil {t t' : T} {ws : List W} (h : some (t', ([] : List W)) = some (t, ws)) : ws = [] := by
  simp only [Option.some.injEq, Prod.mk.injEq] at h; exact h.2.symm

theorem act_quiet {n : Nat} {o : DOper} {get : Opd → T} (h : o.op.mem = 0) : (act ext call n o get).quiet := by
  unfold act
  cases hop : o.op with
  | mv x => exact quiet_done fun t ws ha => some_nil ha
  | pick x y z =>
    refine quiet_done fun t ws ha => ?_
    split at ha
    · exact some_nil ha
    · cases ha
  | build zs ps =>
    refine quiet_done fun t ws ha => ?_
    split at ha
    · cases ha
    · exact map_nil (f := T.agg) ha
  | bsl ty sz own xs =>
    rw [hop] at h
    cases own with
    | true => simp [DOp.mem] at h
    | false =>
      dsimp only
      split
      · trivial
      · exact quiet_done fun t ws ha => some_nil ha
  | nilck x =>
    refine quiet_done fun t ws ha => ?_
    split at ha
    · exact some_nil ha
    · exact some_nil ha
    · cases ha
  | bin op x y => exact quiet_done fun t ws ha => map_nil (f := id) ha
  | beq b x y =>
    refine quiet_done fun t ws ha => ?_
    split at ha
    · exact some_nil ha
    · cases ha
  | un op x => exact quiet_done fun t ws ha => map_nil (f := id) ha
  | conv k x => exact quiet_done fun t ws ha => map_nil (f := id) ha
  | mkfn f xs ys =>
    refine quiet_done fun t ws ha => ?_
    split at ha
    · exact some_nil ha
    · cases ha
  | slice str sz x lo hi mx =>
    cases str with
    | true =>
      refine quiet_done fun t ws ha => ?_
      split at ha
      · split at ha
        · exact some_nil ha
        · cases ha
      · cases ha
    | false =>
      refine quiet_done fun t ws ha => ?_
      split at ha
      · split at ha
        · split at ha
          · exact some_nil ha
          · cases ha
        · split at ha
          · split at ha
            · exact map_nil (f := fun r => T.one (.v (.sl r))) ha
            · cases ha
          · cases ha
        · cases ha
      · cases ha
  | faddr off x =>
    refine quiet_done fun t ws ha => ?_
    split at ha
    · split at ha
      · exact some_nil ha
      · cases ha
    · exact some_nil ha
    · cases ha
  | iaddr sz x y =>
    refine quiet_done fun t ws ha => ?_
    split at ha
    · split at ha
      · exact some_nil ha
      · cases ha
    · split at ha
      · split at ha
        · split at ha
          · split at ha
            · exact some_nil ha
            · cases ha
          · cases ha
        · cases ha
      · cases ha
    · cases ha
  | index x y =>
    refine quiet_done fun t ws ha => ?_
    split at ha
    · split at ha
      · split at ha
        · exact some_nil ha
        · cases ha
      · cases ha
    · cases ha
  | extract x i =>
    refine quiet_done fun t ws ha => ?_
    split at ha
    · exact map_nil (f := id) ha
    · cases ha
  | len str x =>
    cases str with
    | true =>
      refine quiet_done fun t ws ha => ?_
      split at ha
      · exact some_nil ha
      · cases ha
    | false =>
      refine quiet_done fun t ws ha => ?_
      split at ha
      · exact some_nil ha
      · split at ha
        · exact some_nil ha
        · cases ha
      · cases ha
  | pureBi b args => exact quiet_done fun t ws ha => map_nil (f := id) ha
  | _ => rw [hop] at h; simp [DOp.mem] at h

theorem act_looking {n : Nat} {o : DOper} {get : Opd → T} (h : o.op.mem ≤ 1) : (act ext call n o get).looking := by
  by_cases h0 : o.op.mem = 0
  · exact quiet_looking (act_quiet h0)
  · unfold act
    cases hop : o.op with
    | load sz x =>
      dsimp only
      split
      · exact looking_done fun t ws ha => map_nil (f := id) ha
      · refine looking_one fun q t ws ha => ?_
        split at ha
        · exact map_nil (f := id) ha
        · cases ha
      · trivial
    | pcast al x =>
      dsimp only
      split
      · refine looking_one fun q t ws ha => ?_
        split at ha
        · exact some_nil ha
        · cases ha
      · trivial
    | peq b x y =>
      dsimp only
      split
      · exact looking_done fun t ws ha => some_nil ha
      · exact looking_done fun t ws ha => some_nil ha
      · exact looking_done fun t ws ha => some_nil ha
      · exact looking_done fun t ws ha => some_nil ha
      · exact looking_done fun t ws ha => some_nil ha
      · split
        · refine looking_one fun q t ws ha => ?_
          split at ha
          · exact some_nil ha
          · cases ha
        · trivial
      · trivial
    | sdata x =>
      dsimp only
      split
      · refine looking_one fun q t ws ha => ?_
        split at ha
        · exact some_nil ha
        · cases ha
      · trivial
    | ustr ty x y =>
      dsimp only
      split
      · refine looking_one fun q t ws ha => ?_
        split at ha
        · exact map_nil (f := fun bs : List UInt8 => tS ⟨bs.toArray⟩) ha
        · cases ha
      · trivial
    | bsl ty sz own xs => rw [hop] at h h0; cases own <;> simp [DOp.mem] at h h0
    | _ => rw [hop] at h h0; simp [DOp.mem] at h h0

/-! ### Steps -/

theorem step_some {o : DOper} {fr fr' : Fr} {ls : List Loc} {ws : List W} (h : step ext call o fr = some (fr', ls, ws)) : (wants o fr = some false ∧ fr' = putT fr o.dst (.tup []) ∧ ls = [] ∧ ws = []) ∨
    (wants o fr = some true ∧ ∃ t f1, fr.ask (act ext call fr.n o fr.get) = some (t, ws, ls) ∧ fr.writes ws = some f1 ∧ fr' = putT f1 o.dst t) := by
  unfold step at h
  split at h
  · cases h
  · rename_i hw
    simp only [Option.some.injEq, Prod.mk.injEq] at h
    exact .inl ⟨hw, h.1.symm, h.2.1.symm, h.2.2.symm⟩
  · rename_i hw
    split at h
    · cases h
    · rename_i t ws' ls' ha
      split at h
      · cases h
      · rename_i f1 hf
        simp only [Option.some.injEq, Prod.mk.injEq] at h
        obtain ⟨rfl, rfl, rfl⟩ := h
        exact .inr ⟨hw, t, f1, ha, hf, rfl⟩

/-- A step, in one form. -/
theorem step_form {o : DOper} {fr fr' : Fr} {ls : List Loc} {ws : List W} : step ext call o fr = some (fr', ls, ws) ↔ ∃ b t f1, wants o fr = some b ∧ (if b then fr.ask (act ext call fr.n o fr.get) = some (t, ws, ls) else t = .tup [] ∧ ws = [] ∧ ls = []) ∧ fr.writes ws = some f1 ∧ fr' = putT f1 o.dst t := by
  constructor
  · intro h
    rcases step_some h with ⟨h1, h2, h3, h4⟩ | ⟨h1, t, f1, h2, h3, h4⟩
    · subst h3; subst h4
      exact ⟨false, .tup [], fr, h1, ⟨rfl, rfl, rfl⟩, rfl, h2⟩
    · exact ⟨true, t, f1, h1, h2, h3, h4⟩
  · rintro ⟨b, t, f1, h1, h2, h3, h4⟩
    unfold step
    cases b with
    | false =>
      simp only [Bool.false_eq_true, if_false] at h2
      obtain ⟨rfl, rfl, rfl⟩ := h2
      simp only [Fr.writes, Option.some.injEq] at h3
      subst h3
      simp only [h1, h4]
    | true =>
      simp only [if_true] at h2
      simp only [h1, h2, h3, h4]

theorem get_put {fr : Fr} {d : Option Nat} {t : T} {x : Opd} (h : ∀ k, d = some k → k ∉ opdT x) : (putT fr d t).get x = fr.get x := by
  cases d with
  | none => rfl
  | some k =>
    cases x with
    | c y => rfl
    | t m =>
      have hm : k ≠ m := by have := h k rfl; simpa [opdT] using this
      simp only [Fr.get, putT, List.getD_eq_getElem?_getD, List.getElem?_set_ne hm]

theorem get_tm {fr fr' : Fr} (h : fr'.tm = fr.tm) (x : Opd) : fr'.get x = fr.get x := by
  cases x with
  | c y => rfl
  | t m => simp only [Fr.get, h]

theorem wants_congr {o : DOper} {fr fr' : Fr} (h : ∀ d b, o.guard = some (d, b) → fr'.get (.t d) = fr.get (.t d)) : wants o fr' = wants o fr := by
  unfold wants
  cases hg : o.guard with
  | none => rfl
  | some q =>
    obtain ⟨d, b⟩ := q
    simp only [h d b hg]

theorem put_comm {fr : Fr} {d d' : Option Nat} {t t' : T} (h : ∀ k, d = some k → d' ≠ some k) : putT (putT fr d t) d' t' = putT (putT fr d' t') d t := by
  cases d with
  | none => rfl
  | some k =>
    cases d' with
    | none => rfl
    | some m =>
      have hm : k ≠ m := fun e => h k rfl (by rw [e])
      simp only [putT, List.set_comm t t' hm]

theorem put_look {fr : Fr} {d : Option Nat} {t : T} (l : Loc) : (putT fr d t).look l = fr.look l := by
  cases d <;> cases l <;> rfl

theorem put_n {fr : Fr} {d : Option Nat} {t : T} : (putT fr d t).n = fr.n := by cases d <;> rfl

theorem write_unput {fr g : Fr} {w : W} (d : Option Nat) (t : T) (h : (putT fr d t).write w = some g) : ∃ g', fr.write w = some g' ∧ g = putT g' d t := by
  cases d with
  | none => exact ⟨g, h, rfl⟩
  | some d =>
    cases w with
    | setb a q =>
      obtain ⟨h1, rfl⟩ := write_setb h
      exact ⟨{ fr with bx := fr.bx.set a q }, by simp only [Fr.write]; exact if_pos h1, rfl⟩
    | cells l off cs =>
      cases l <;>
      · simp only [Fr.write, putT] at h ⊢
        split at h
        · rename_i o ho
          split at h
          · rename_i hl
            simp only [Option.some.injEq] at h
            subst h
            simp only [if_pos hl]
            exact ⟨_, rfl, rfl⟩
          · cases h
        · cases h

theorem writes_unput (d : Option Nat) (t : T) : ∀ {ws : List W} {fr g : Fr}, (putT fr d t).writes ws = some g → ∃ g', fr.writes ws = some g' ∧ g = putT g' d t
  | [], fr, g, h => by simp only [Fr.writes, Option.some.injEq] at h; exact ⟨fr, rfl, h.symm⟩
  | w :: ws, fr, g, h => by
    obtain ⟨m, m1, m2⟩ := writes_cons_iff.1 h
    obtain ⟨m', k1, rfl⟩ := write_unput d t m1
    obtain ⟨g', l1, l2⟩ := writes_unput d t m2
    exact ⟨g', writes_cons_iff.2 ⟨m', k1, l1⟩, l2⟩

theorem step_swap {x y : DOper} {fr f1 f2 : Fr} {lx ly : List Loc} {wx wy : List W} (h1 : step ext call x fr = some (f1, lx, wx)) (h2 : step ext call y f1 = some (f2, ly, wy)) (hd : apartD x y = true) (hf : apartF (lx, wx) (ly, wy) = true) :
    ∃ g1, step ext call y fr = some (g1, ly, wy) ∧ step ext call x g1 = some (f2, lx, wx) := by
  obtain ⟨bx, tx, m1, a1, a2, a3, rfl⟩ := step_form.1 h1
  obtain ⟨bY, ty, m2, b1, b2, b3, rfl⟩ := step_form.1 h2
  simp only [apartD, Bool.and_eq_true] at hd
  simp only [apartF, Bool.and_eq_true, List.all_eq_true, bne_iff_ne] at hf
  obtain ⟨⟨hf1, hf2⟩, hf3⟩ := hf
  obtain ⟨l0, l2, l3⟩ := writes_look a3
  have hdx : ∀ k, x.dst = some k → k ∉ y.reads ∧ y.dst ≠ some k := by
    intro k hk
    have := hd.1
    rw [hk] at this
    simpa using this
  have hdy : ∀ k, y.dst = some k → k ∉ x.reads := by
    intro k hk
    have := hd.2
    rw [hk] at this
    simpa using this
  have hgety : ∀ z ∈ y.op.opds, (putT m1 x.dst tx).get z = fr.get z := by
    intro z hz
    rw [get_put (fun k hk hm => (hdx k hk).1 (by simp only [DOper.reads, List.mem_append, List.mem_flatMap]; exact .inr ⟨z, hz, hm⟩)), get_tm l2]
  have hwy : wants y fr = some bY := by
    rw [← b1]
    refine (wants_congr fun d b hg => ?_).symm
    rw [get_put (fun k hk hm => (hdx k hk).1 (by simp only [DOper.reads, hg, List.mem_append]; exact .inl (by simpa [opdT] using hm))), get_tm l2]
  obtain ⟨m2', c1, rfl⟩ := writes_unput x.dst tx b3
  obtain ⟨g, g1, g2⟩ := writes_comm a3 c1 (fun w hw w' hw' => hf3 w hw w' hw')
  obtain ⟨q0, q2, q3⟩ := writes_look g1
  have hasky : (if bY then fr.ask (act ext call fr.n y fr.get) = some (ty, wy, ly) else ty = .tup [] ∧ wy = [] ∧ ly = []) := by
    cases bY with
    | false => simpa using b2
    | true =>
      simp only [if_true] at b2 ⊢
      rw [act_congr hgety, put_n, l0] at b2
      refine ask_congr b2 fun l hl => ?_
      rw [put_look]
      exact (l3 l (fun w hw => hf2 l hl w hw)).symm
  refine ⟨putT g y.dst ty, step_form.2 ⟨bY, ty, g, hwy, hasky, g1, rfl⟩, step_form.2 ⟨bx, tx, putT m2' y.dst ty, ?_, ?_, writes_put y.dst ty g2, put_comm (fun k hk => (hdx k hk).2)⟩⟩
  · rw [← a1]
    refine wants_congr fun d b hg => ?_
    rw [get_put (fun k hk hm => hdy k hk (by simp only [DOper.reads, hg, List.mem_append]; exact .inl (by simpa [opdT] using hm))), get_tm q2]
  · cases bx with
    | false => simpa using a2
    | true =>
      simp only [if_true] at a2 ⊢
      have hgetx : ∀ z ∈ x.op.opds, (putT g y.dst ty).get z = fr.get z := by
        intro z hz
        rw [get_put (fun k hk hm => hdy k hk (by simp only [DOper.reads, List.mem_append, List.mem_flatMap]; exact .inr ⟨z, hz, hm⟩)), get_tm q2]
      rw [act_congr hgetx, put_n, q0]
      refine ask_congr a2 fun l hl => ?_
      rw [put_look]
      exact q3 l (fun w hw => hf1 l hl w hw)

/-- The footprints of what touches little. -/
theorem step_mem {o : DOper} {fr fr' : Fr} {ls : List Loc} {ws : List W} (h : step ext call o fr = some (fr', ls, ws)) : (o.op.mem = 0 → ls = [] ∧ ws = []) ∧ (o.op.mem ≤ 1 → ws = []) := by
  rcases step_some h with ⟨_, _, h3, h4⟩ | ⟨_, t, f1, h2, _, _⟩
  · exact ⟨fun _ => ⟨h3, h4⟩, fun _ => h4⟩
  · exact ⟨fun hm => (quiet_ask (act_quiet hm) h2).symm, fun hm => looking_ask (act_looking hm) h2⟩

theorem apart_small {x y : DOper} {fx fy : List Loc × List W} (hx : (x.op.mem = 0 → fx.1 = [] ∧ fx.2 = []) ∧ (x.op.mem ≤ 1 → fx.2 = [])) (hy : (y.op.mem = 0 → fy.1 = [] ∧ fy.2 = []) ∧ (y.op.mem ≤ 1 → fy.2 = []))
    (h : ((x.op.mem == 2 && y.op.mem != 0) || (x.op.mem != 0 && y.op.mem == 2)) = false) : apartF fx fy = true := by
  have h2 : ∀ o : DOper, o.op.mem ≤ 2 := by
    intro o
    cases o.op <;> simp [DOp.mem]
    split <;> omega
  simp only [Bool.or_eq_false_iff, Bool.and_eq_false_iff, beq_eq_false_iff_ne, bne_eq_false_iff_eq] at h
  have hx2 := h2 x
  have hy2 := h2 y
  obtain ⟨lx, wx⟩ := fx
  obtain ⟨ly, wy⟩ := fy
  by_cases hx0 : x.op.mem = 0
  · obtain ⟨rfl, rfl⟩ := hx.1 hx0
    simp [apartF]
  · by_cases hy0 : y.op.mem = 0
    · obtain ⟨rfl, rfl⟩ := hy.1 hy0
      simp [apartF]
    · have e1 : wx = [] := hx.2 (by omega)
      have e2 : wy = [] := hy.2 (by omega)
      subst e1; subst e2
      simp [apartF]

end
end Go.Dev
