/- An evaluator by value of the translated code, and a calculus of it: what it computes, the machine of the model computes (for the operations that are listed, under no further condition). -/
import Derived.Test.YtkefplbhpbdhdaaEb
import Derived.Test.YtkefplbhpbdhdaaEa
import Derived.Orders
import Derived.ScopeJumps
import Derived.Below
set_option linter.all false
/- Regions, in whatever order. -/
namespace Go.Dev
open Go

variable {P : Program}

abbrev Foot := List Loc × List W

section
variable {ext : Ext} {call : CallF} {ds : List DOper}

/-- The operations one by one, in the order of a list. -/
def Run (ext : Ext) (call : CallF) (ds : List DOper) (F : Nat → Foot) : List Nat → Fr → Fr → Prop
  | [], fr, fr' => fr' = fr
  | i :: r, fr, fr' => ∃ d f1, ds[i]? = some d ∧ step ext call d fr = some (f1, (F i).1, (F i).2) ∧ Run ext call ds F r f1 fr'

theorem run_Run {F : Nat → Foot} : ∀ {rest pre : List DOper} {fr fr' : Fr} {fs : List Foot}, run ext call rest fr = some (fr', fs) → ds = pre ++ rest → (∀ j f, fs[j]? = some f → F (pre.length + j) = f) → Run ext call ds F (List.range' pre.length rest.length) fr fr'
  | [], pre, fr, fr', fs, h, _, _ => by
    simp only [run, Option.some.injEq, Prod.mk.injEq] at h
    simp only [List.length_nil, List.range'_zero, Run]
    exact h.1.symm
  | o :: os, pre, fr, fr', fs, h, hds, hF => by
    simp only [run] at h
    cases h1 : step ext call o fr with
    | none => simp [h1] at h
    | some q =>
      obtain ⟨f1, f⟩ := q
      simp only [h1] at h
      cases h2 : run ext call os f1 with
      | none => simp [h2] at h
      | some q2 =>
        obtain ⟨f2, fs'⟩ := q2
        simp only [h2, Option.some.injEq, Prod.mk.injEq] at h
        obtain ⟨rfl, rfl⟩ := h
        simp only [List.length_cons, List.range'_succ, Run]
        have hf : F pre.length = f := by have := hF 0 f rfl; simpa using this
        refine ⟨o, f1, by rw [hds]; simp, by rw [hf]; exact h1, ?_⟩
        have := run_Run (pre := pre ++ [o]) (F := F) h2 (by rw [hds]; simp) (fun j g hj => by
          have := hF (j + 1) g (by simpa using hj)
          rw [List.length_append, List.length_singleton, show pre.length + 1 + j = pre.length + (j + 1) by omega]
          exact this)
        rw [List.length_append, List.length_singleton] at this
        exact this

def Indep (ds : List DOper) (F : Nat → Foot) (k i : Nat) : Prop := ∀ x y, ds[k]? = some x → ds[i]? = some y → apartD x y = true ∧ apartF (F k) (F i) = true

theorem Run.front {F : Nat → Foot} {i : Nat} {post : List Nat} : ∀ {pre : List Nat} {fr fr' : Fr}, Run ext call ds F (pre ++ i :: post) fr fr' → (∀ k ∈ pre, Indep ds F k i) → Run ext call ds F (i :: (pre ++ post)) fr fr'
  | [], fr, fr', h, _ => h
  | k :: pre, fr, fr', h, hi => by
    simp only [List.cons_append, Run] at h
    obtain ⟨x, f1, hx, hs, hr⟩ := h
    have ih := Run.front hr (fun j hj => hi j (by simp [hj]))
    simp only [Run] at ih
    obtain ⟨y, f2, hy, hs2, hr2⟩ := ih
    obtain ⟨hd, hf⟩ := hi k (by simp) x y hx hy
    obtain ⟨g1, s1, s2⟩ := step_swap hs hs2 hd hf
    simp only [List.cons_append, Run]
    exact ⟨y, g1, hy, s1, x, f2, hx, s2, hr2⟩

/-! ### One operation of a region -/

variable {e : Ent} {pol : Pol} {ops : Array Oper} {Q : Exit → Act → World → Prop}

theorem wants_rel {c : Cx} {fr : Fr} {a : Act} (R : RelFr e c fr a.tmps) {o : Oper} {d : DOper} (hd : cOper P pol ops o = some d) {b : Bool} (hw : wants d fr = some b) : Region.wanted o (yielded ops a.tmps) = b ∧ cOp P pol o = some d.op ∧ d.dst = o.dst := by
  unfold cOper at hd
  cases hop : cOp P pol o with
  | none => simp [hop] at hd
  | some op =>
    simp only [hop] at hd
    cases hg : o.guard with
    | none =>
      simp only [hg, Option.some.injEq] at hd
      subst hd
      simp only [wants, Option.some.injEq] at hw
      subst hw
      exact ⟨by simp [Region.wanted, hg], rfl, rfl⟩
    | some q =>
      obtain ⟨j, want⟩ := q
      simp only [hg] at hd
      split at hd
      · rename_i t ht
        simp only [Option.some.injEq] at hd
        subst hd
        simp only [wants] at hw
        split at hw
        rotate_left
        · rename_i hb'
          simp only [Option.some.injEq] at hw
          subst hw
          refine ⟨?_, rfl, rfl⟩
          have hlt : t < fr.tm.length := by
            rcases Nat.lt_or_ge t fr.tm.length with hl | hl
            · exact hl
            · simp only [Fr.get, List.getD_eq_getElem?_getD, List.getElem?_eq_none hl, Option.getD_none] at hb'
              cases hb'
          have htm : fr.tm[t]? = some (.tup []) := by
            simp only [Fr.get, List.getD_eq_getElem?_getD, List.getElem?_eq_getElem hlt, Option.getD_some] at hb'
            rw [List.getElem?_eq_getElem hlt, hb']
          have hr := R.tms t _ htm
          simp only [RelT] at hr
          obtain ⟨arr, hr, hr2⟩ := hr
          have hts : t < a.tmps.size := by rw [R.tsz]; exact hlt
          rw [Array.getD_eq_getD_getElem?, Array.getElem?_eq_getElem hts, Option.getD_some] at hr
          simp only [Region.wanted, hg, yielded, ht, Option.bind_some, Array.getElem?_eq_getElem hts, hr]
          rfl
        · cases hw
        · rename_i b' hb'
          simp only [Option.some.injEq] at hw
          subst hw
          refine ⟨?_, rfl, rfl⟩
          have hlt : t < fr.tm.length := by
            rcases Nat.lt_or_ge t fr.tm.length with hl | hl
            · exact hl
            · simp only [Fr.get, List.getD_eq_getElem?_getD, List.getElem?_eq_none hl, Option.getD_none] at hb'
              cases hb'
          have htm : fr.tm[t]? = some (.one (.v (.s (.bool b')))) := by
            simp only [Fr.get, List.getD_eq_getElem?_getD, List.getElem?_eq_getElem hlt, Option.getD_some] at hb'
            rw [List.getElem?_eq_getElem hlt, hb']
          have hr := (R.tms t _ htm).lit.1
          have hts : t < a.tmps.size := by rw [R.tsz]; exact hlt
          rw [Array.getD_eq_getD_getElem?, Array.getElem?_eq_getElem hts, Option.getD_some] at hr
          simp only [Region.wanted, hg, yielded, ht, Option.bind_some, Array.getElem?_eq_getElem hts, hr]
          cases b' <;> cases want <;> rfl
      · cases hd

theorem wpOp_step {call : CallF} (G : Good P call) (E : ExtOk P ext) {c : Cx} {fr fr' : Fr} {a : Act} (R : RelFr e c fr a.tmps) {i : Nat} {o : Oper} {d : DOper} (ho : ops[i]? = some o) (hd : cOper P pol ops o = some d) {ls : List Loc} {ws : List W} (hs : step ext call d fr = some (fr', ls, ws))
    {K : Act → World → Prop} (hk : ∀ c' a', CxLe c c' → RelFr e c' fr' a'.tmps → a'.defers = a.defers → K a' c'.w) : wpOp P ops Q i K a c.w := by
  unfold wpOp
  rw [ho]
  simp only
  rcases step_some hs with ⟨hw, rfl, rfl, rfl⟩ | ⟨hw, t, f1, ha, hf, rfl⟩
  · obtain ⟨h1, h2, h3⟩ := wants_rel R hd hw
    simp only [h1, Bool.false_eq_true, if_false]
    have := R.put (x := .tup []) (v := undef) (by simp only [RelT]; exact ⟨[], rfl, by simp only [RelTs]⟩) d.dst
    rw [h3] at this
    refine hk c _ (CxLe.refl c) ?_ ?_
    · rw [h3]
      cases hdst : o.dst <;> simpa [Act.put, hdst] using this
    · cases hdst : o.dst <;> simp [Act.put]
  · obtain ⟨h1, h2, h3⟩ := wants_rel R hd hw
    simp only [h1, if_true]
    left
    refine snd_op R G E h2 rfl h3 ha hf K Q fun v c' H R' ht => ?_
    have := R'.put ht d.dst
    rw [h3] at this
    refine hk c' _ H ?_ ?_
    · rw [h3]
      cases hdst : o.dst <;> simpa [Act.put, hdst] using this
    · cases hdst : o.dst <;> simp [Act.put]

theorem cOpers_at {all : Array Oper} : ∀ {os : List Oper} {ds : List DOper}, cOpers P pol all os = some ds → ds.length = os.length ∧ ∀ (i : Nat) (d : DOper), ds[i]? = some d → ∃ o, os[i]? = some o ∧ cOper P pol all o = some d
  | [], ds, h => by simp only [cOpers, Option.some.injEq] at h; subst h; simp
  | o :: os, ds, h => by
    simp only [cOpers] at h
    split at h
    · rename_i x xs h1 h2
      simp only [Option.some.injEq] at h
      subst h
      obtain ⟨k1, k2⟩ := cOpers_at h2
      refine ⟨by simp [k1], fun i d hi => ?_⟩
      cases i with
      | zero => simp at hi; subst hi; exact ⟨o, rfl, h1⟩
      | succ i => simpa using k2 i d (by simpa using hi)
    · cases h

theorem wpOps_run {call : CallF} (G : Good P call) (E : ExtOk P ext) (hds : cOpers P pol ops ops.toList = some ds) {F : Nat → Foot} {fr' : Fr} : ∀ {L : List Nat} {c : Cx} {fr : Fr} {a : Act}, RelFr e c fr a.tmps → Run ext call ds F L fr fr' →
    (∀ c' a', CxLe c c' → RelFr e c' fr' a'.tmps → a'.defers = a.defers → Q .normal a' c'.w) → wpOps P ops Q L a c.w
  | [], c, fr, a, R, h, hq => by
    simp only [Run] at h
    subst h
    simp only [wpOps]
    exact hq c a (CxLe.refl c) R rfl
  | i :: L, c, fr, a, R, h, hq => by
    simp only [Run] at h
    obtain ⟨d, f1, h1, h2, h3⟩ := h
    obtain ⟨o, o1, o2⟩ := (cOpers_at hds).2 i d h1
    rw [wpOps_cons]
    refine wpOp_step G E R (by rw [← Array.getElem?_toList]; exact o1) o2 h2 fun c' a' H R' hdf => ?_
    exact wpOps_run G E hds R' h3 fun c'' a'' H' R'' hdf' => hq c'' a'' (H.trans H') R'' (by rw [hdf', hdf])

/-! ### Whatever order is drawn -/

def ancStep (acc : List (List Nat)) (o : Oper) : List Nat := o.after.toList.foldl (fun s e => if Region.binds .any e then (acc.getD e.on []).foldl (fun s i => if i ∈ s then s else i :: s) (if e.on ∈ s then s else e.on :: s) else s) []

theorem ancs_eq (ops : List Oper) : ancs ops = ops.foldl (fun acc o => acc ++ [ancStep acc o]) [] := rfl

theorem mem_ins {k : Nat} : ∀ {l s : List Nat}, k ∈ l.foldl (fun s i => if i ∈ s then s else i :: s) s → k ∈ s ∨ k ∈ l
  | [], s, h => .inl h
  | i :: l, s, h => by
    simp only [List.foldl_cons] at h
    rcases mem_ins h with h | h
    · split at h
      · exact .inl h
      · rcases List.mem_cons.1 h with rfl | h
        · exact .inr (by simp)
        · exact .inl h
    · exact .inr (by simp [h])

theorem mem_ancFold {acc : List (List Nat)} {k : Nat} : ∀ {es : List Edge} {s : List Nat}, k ∈ es.foldl (fun s e => if Region.binds .any e then (acc.getD e.on []).foldl (fun s i => if i ∈ s then s else i :: s) (if e.on ∈ s then s else e.on :: s) else s) s →
    k ∈ s ∨ ∃ e ∈ es, Region.binds .any e = true ∧ (k = e.on ∨ k ∈ acc.getD e.on [])
  | [], s, h => .inl h
  | e :: es, s, h => by
    simp only [List.foldl_cons] at h
    rcases mem_ancFold h with h | ⟨e', h1, h2⟩
    · split at h
      · rename_i hb
        rcases mem_ins h with h | h
        · split at h
          · exact .inl h
          · rcases List.mem_cons.1 h with rfl | h
            · exact .inr ⟨e, by simp, hb, .inl rfl⟩
            · exact .inl h
        · exact .inr ⟨e, by simp, hb, .inr h⟩
      · exact .inl h
    · exact .inr ⟨e', by simp [h1], h2⟩

theorem ancs_keep : ∀ (l : List Oper) (acc : List (List Nat)) (i : Nat), i < acc.length → (l.foldl (fun acc o => acc ++ [ancStep acc o]) acc)[i]? = acc[i]?
  | [], acc, i, h => rfl
  | o :: l, acc, i, h => by
    simp only [List.foldl_cons]
    rw [ancs_keep l _ i (by simp; omega), List.getElem?_append_left h]

theorem ancs_at : ∀ (l : List Oper) (acc : List (List Nat)) (i : Nat) (o : Oper), l[i]? = some o → ∃ acc', acc'.length = acc.length + i ∧ (l.foldl (fun acc o => acc ++ [ancStep acc o]) acc)[acc.length + i]? = some (ancStep acc' o) ∧ ∀ j, j < acc.length + i → (l.foldl (fun acc o => acc ++ [ancStep acc o]) acc)[j]? = acc'[j]?
  | [], acc, i, o, h => by simp at h
  | x :: l, acc, i, o, h => by
    cases i with
    | zero =>
      simp at h
      subst h
      simp only [List.foldl_cons, Nat.add_zero]
      refine ⟨acc, rfl, ?_, fun j hj => ?_⟩
      · rw [ancs_keep l _ _ (by simp), List.getElem?_append_right (Nat.le_refl _)]; simp
      · rw [ancs_keep l _ _ (by simp; omega), List.getElem?_append_left hj]
    | succ i =>
      obtain ⟨acc', h1, h2, h3⟩ := ancs_at l (acc ++ [ancStep acc x]) i o (by simpa using h)
      simp only [List.length_append, List.length_singleton] at h1 h2 h3
      simp only [List.foldl_cons]
      refine ⟨acc', by omega, ?_, fun j hj => h3 j (by omega)⟩
      rw [show acc.length + (i + 1) = acc.length + 1 + i by omega]
      exact h2

theorem edgesOk_at : ∀ {l : List Oper} {n : Nat}, edgesOk n l = true → ∀ (i : Nat) (o : Oper), l[i]? = some o → ∀ ed ∈ o.after.toList, Region.binds .any ed = true → ed.on < n + i
  | [], n, _, i, o, h, _, _, _ => by simp at h
  | x :: l, n, hk, i, o, h, ed, he, hb => by
    simp only [edgesOk, Bool.and_eq_true] at hk
    cases i with
    | zero =>
      simp at h
      subst h
      have := Array.all_eq_true_iff_forall_mem.1 hk.1 ed (by simpa using he)
      simpa [hb] using this
    | succ i =>
      have := edgesOk_at hk.2 i o (by simpa using h) ed he hb
      omega

/-- Behind what an operation stands. -/
theorem anc_spec {l : List Oper} (hk : edgesOk 0 l = true) {i : Nat} {o : Oper} (ho : l[i]? = some o) {k : Nat} (h : k ∈ (ancs l).getD i []) : ∃ ed ∈ o.after.toList, Region.binds .any ed = true ∧ ed.on < i ∧ (k = ed.on ∨ k ∈ (ancs l).getD ed.on []) := by
  obtain ⟨acc', h1, h2, h3⟩ := ancs_at l [] i o ho
  simp only [List.length_nil, Nat.zero_add] at h1 h2 h3
  rw [ancs_eq, List.getD_eq_getElem?_getD, h2, Option.getD_some] at h
  rcases mem_ancFold h with h | ⟨ed, e1, e2, e3⟩
  · simp at h
  · have hlt := edgesOk_at hk i o ho ed e1 e2
    refine ⟨ed, e1, e2, by omega, e3.imp id fun h => ?_⟩
    rw [ancs_eq, List.getD_eq_getElem?_getD, h3 ed.on (by omega), ← List.getD_eq_getElem?_getD]
    exact h

theorem mem_pairs {n i j : Nat} (h1 : i < j) (h2 : j < n) : (i, j) ∈ pairs n := by
  simp only [pairs, List.mem_flatMap, List.mem_range, List.mem_map]
  exact ⟨j, h2, i, h1, rfl⟩

theorem checkBad_mem {fs : List Foot} : ∀ {bad : List (Nat × Nat)}, checkBad fs bad = true → ∀ p ∈ bad, ∃ x y, fs[p.1]? = some x ∧ fs[p.2]? = some y ∧ apartF x y = true
  | [], _, p, hp => by cases hp
  | (i, j) :: r, h, p, hp => by
    simp only [checkBad, Bool.and_eq_true] at h
    rcases List.mem_cons.1 hp with rfl | hp
    · have h1 := h.1
      split at h1
      · rename_i x y hx hy
        exact ⟨x, y, hx, hy, h1⟩
      · cases h1
    · exact checkBad_mem h.2 p hp

theorem run_foot : ∀ {rest : List DOper} {fr fr' : Fr} {fs : List Foot}, run ext call rest fr = some (fr', fs) → fs.length = rest.length ∧ ∀ (i : Nat) (f : Foot), fs[i]? = some f → ∃ d, rest[i]? = some d ∧ ((d.op.mem = 0 → f.1 = [] ∧ f.2 = []) ∧ (d.op.mem ≤ 1 → f.2 = []))
  | [], fr, fr', fs, h => by
    simp only [run, Option.some.injEq, Prod.mk.injEq] at h
    obtain ⟨_, rfl⟩ := h
    simp
  | o :: os, fr, fr', fs, h => by
    simp only [run] at h
    cases h1 : step ext call o fr with
    | none => simp [h1] at h
    | some q =>
      obtain ⟨f1, f⟩ := q
      simp only [h1] at h
      cases h2 : run ext call os f1 with
      | none => simp [h2] at h
      | some q2 =>
        obtain ⟨f2, fs'⟩ := q2
        simp only [h2, Option.some.injEq, Prod.mk.injEq] at h
        obtain ⟨_, rfl⟩ := h
        obtain ⟨k1, k2⟩ := run_foot h2
        refine ⟨by simp [k1], fun i g hi => ?_⟩
        cases i with
        | zero => simp at hi; subst hi; exact ⟨o, rfl, step_mem h1⟩
        | succ i => simpa using k2 i g (by simpa using hi)

/-- What has been carried out is closed under what stands ahead. -/
def Closed (l : List Oper) (listed : Array Bool) : Prop := ∀ j, listed.getD j false = true → ∀ k ∈ (ancs l).getD j [], listed.getD k false = true

theorem mem_ready {listed : Array Bool} {i : Nat} (h : i ∈ Region.ready .any ops listed) : i < ops.size ∧ listed.getD i true = false ∧ ∃ o, ops[i]? = some o ∧ ∀ ed ∈ o.after.toList, Region.binds .any ed = true → listed.getD ed.on false = true := by
  simp only [Region.ready, List.mem_filter, List.mem_range, Bool.and_eq_true, Bool.not_eq_true'] at h
  obtain ⟨h1, h2, h3⟩ := h
  refine ⟨h1, h2, ops[i], Array.getElem?_eq_getElem h1, fun ed he hb => ?_⟩
  rw [Array.getElem?_eq_getElem h1, Option.map_some, Option.getD_some] at h3
  have := Array.all_eq_true_iff_forall_mem.1 h3 ed (by simpa using he)
  simpa [hb] using this

theorem ready_mem {listed : Array Bool} {i : Nat} {o : Oper} (h1 : ops[i]? = some o) (h2 : listed.getD i true = false) (h3 : ∀ ed ∈ o.after.toList, Region.binds .any ed = true → listed.getD ed.on false = true) : i ∈ Region.ready .any ops listed := by
  have hi : i < ops.size := (Array.getElem?_eq_some_iff.1 h1).1
  simp only [Region.ready, List.mem_filter, List.mem_range, Bool.and_eq_true, Bool.not_eq_true']
  refine ⟨hi, h2, ?_⟩
  rw [h1, Option.map_some, Option.getD_some]
  rw [Array.all_eq_true_iff_forall_mem]
  intro ed he
  cases hb : Region.binds .any ed with
  | false => simp
  | true => simp [h3 ed (by simpa using he) hb]

theorem getD_lt {listed : Array Bool} {i : Nat} (h : i < listed.size) (b : Bool) : listed.getD i b = listed[i] := by simp [Array.getD, h]

theorem filter_split {n i : Nat} {p : Nat → Bool} (hi : i < n) (hp : p i = true) : ∃ pre post, (List.range n).filter p = pre ++ i :: post ∧ (∀ k ∈ pre, k < i ∧ p k = true) ∧ ∀ q : Nat → Bool, (∀ k, k ≠ i → q k = p k) → q i = false → (List.range n).filter q = pre ++ post := by
  obtain ⟨m, rfl⟩ : ∃ m, n = i + (1 + m) := ⟨n - (i + 1), by omega⟩
  have hr : List.range (i + (1 + m)) = List.range i ++ i :: List.range' (i + 1) m := by
    rw [List.range_eq_range', List.range_eq_range', ← List.range'_append_1, ← List.range'_append_1]
    simp
  refine ⟨(List.range i).filter p, (List.range' (i + 1) m).filter p, ?_, fun k hk => ?_, fun q hq hqi => ?_⟩
  · rw [hr, List.filter_append, List.filter_cons_of_pos hp]
  · simp only [List.mem_filter, List.mem_range] at hk; exact hk
  · rw [hr, List.filter_append, List.filter_cons_of_neg (by simp [hqi])]
    congr 1
    · exact List.filter_congr fun k hk => hq k (by have := List.mem_range.1 hk; omega)
    · exact List.filter_congr fun k hk => hq k (by have := List.mem_range'_1.1 hk; omega)

theorem wpAny_run {call : CallF} (G : Good P call) (E : ExtOk P ext) (hds : cOpers P pol ops ops.toList = some ds) {F : Nat → Foot} {fr' : Fr} (hedge : edgesOk 0 ops.toList = true)
    (hind : ∀ k i, k < i → i < ops.size → k ∉ (ancs ops.toList).getD i [] → Indep ds F k i) : ∀ (fuel : Nat) {listed : Array Bool} {c : Cx} {fr : Fr} {a : Act}, RelFr e c fr a.tmps → listed.size = ops.size → Closed ops.toList listed →
    ((List.range ops.size).filter (fun i => !listed.getD i true)).length ≤ fuel → Run ext call ds F ((List.range ops.size).filter (fun i => !listed.getD i true)) fr fr' →
    (∀ c' a', CxLe c c' → RelFr e c' fr' a'.tmps → a'.defers = a.defers → Q .normal a' c'.w) → wpAny P .any ops Q fuel listed a c.w := by
  -- if nothing may run, nothing is left
  have done : ∀ {listed : Array Bool} {c : Cx} {fr : Fr} {a : Act}, RelFr e c fr a.tmps → listed.size = ops.size → Run ext call ds F ((List.range ops.size).filter (fun i => !listed.getD i true)) fr fr' →
      (∀ c' a', CxLe c c' → RelFr e c' fr' a'.tmps → a'.defers = a.defers → Q .normal a' c'.w) → Region.ready .any ops listed = [] → Q .normal a c.w := by
    intro listed c fr a R hsz hrun hq hemp
    cases hL : (List.range ops.size).filter (fun i => !listed.getD i true) with
    | nil =>
      rw [hL] at hrun
      simp only [Run] at hrun
      subst hrun
      exact hq c a (CxLe.refl c) R rfl
    | cons i L =>
      exfalso
      -- the first that is left may run
      have hmem : i ∈ (List.range ops.size).filter (fun i => !listed.getD i true) := by rw [hL]; simp
      simp only [List.mem_filter, List.mem_range, Bool.not_eq_true'] at hmem
      have hmin : ∀ k, k < i → listed.getD k false = true := by
        intro k hk
        cases hb : listed.getD k false with
        | true => rfl
        | false =>
          exfalso
          have hks : k < listed.size := by omega
          have hkm : k ∈ (List.range ops.size).filter (fun i => !listed.getD i true) := by
            simp only [List.mem_filter, List.mem_range, Bool.not_eq_true']
            refine ⟨by omega, ?_⟩
            rw [getD_lt hks] at hb ⊢
            exact hb
          have hsorted : ((List.range ops.size).filter (fun i => !listed.getD i true)).Pairwise (· < ·) := List.Pairwise.filter _ List.pairwise_lt_range
          rw [hL] at hkm hsorted
          rcases List.mem_cons.1 hkm with rfl | hkm
          · omega
          · have := (List.pairwise_cons.1 hsorted).1 k hkm
            omega
      have ho := Array.getElem?_eq_getElem hmem.1
      have : i ∈ Region.ready .any ops listed := ready_mem ho hmem.2 fun ed he hb => hmin _ (by
        have := edgesOk_at hedge i ops[i] (by rw [Array.getElem?_toList]; exact ho) ed he hb
        omega)
      rw [hemp] at this
      cases this
  intro fuel
  induction fuel with
  | zero =>
    intro listed c fr a R hsz hcl hlen hrun hq
    simp only [wpAny]
    have hr : Region.ready .any ops listed = [] := by
      cases hrd : Region.ready .any ops listed with
      | nil => rfl
      | cons i L =>
        exfalso
        obtain ⟨h1, h2, _⟩ := mem_ready (show i ∈ Region.ready .any ops listed by rw [hrd]; simp)
        have : i ∈ (List.range ops.size).filter (fun i => !listed.getD i true) := by simp only [List.mem_filter, List.mem_range, h2, Bool.not_false, and_true]; exact h1
        have := List.length_pos_of_mem this
        omega
    exact ⟨hr, done R hsz hrun hq hr⟩
  | succ fuel ih =>
    intro listed c fr a R hsz hcl hlen hrun hq
    simp only [wpAny]
    refine ⟨done R hsz hrun hq, fun i hi => ?_⟩
    obtain ⟨h1, h2, o, ho, h3⟩ := mem_ready hi
    obtain ⟨pre, post, p1, p2, p3⟩ := filter_split (p := fun i => !listed.getD i true) h1 (by simp [h2])
    have hol : ops.toList[i]? = some o := by rw [Array.getElem?_toList]; exact ho
    -- all that it stands behind is done
    have hanc : ∀ k ∈ (ancs ops.toList).getD i [], listed.getD k false = true := by
      intro k hk
      obtain ⟨ed, e1, e2, e3, e4⟩ := anc_spec hedge hol hk
      rcases e4 with rfl | e4
      · exact h3 ed e1 e2
      · exact hcl ed.on (h3 ed e1 e2) k e4
    rw [p1] at hrun hlen
    have hfront := Run.front hrun (fun k hk => by
      obtain ⟨k1, k2⟩ := p2 k hk
      refine hind k i k1 h1 fun hka => ?_
      have := hanc k hka
      have hks : k < listed.size := by omega
      simp only [Bool.not_eq_true'] at k2
      rw [getD_lt hks] at this k2
      rw [this] at k2
      cases k2)
    simp only [Run] at hfront
    obtain ⟨d, f1, hd, hs, hrest⟩ := hfront
    obtain ⟨o', o1, o2⟩ := (cOpers_at hds).2 i d hd
    rw [hol, Option.some.injEq] at o1
    subst o1
    have hset : ∀ k b, k ≠ i → (listed.setIfInBounds i true).getD k b = listed.getD k b := by
      intro k b hk
      simp only [Array.getD_eq_getD_getElem?]
      rw [Array.getElem?_setIfInBounds_ne (Ne.symm hk)]
    have hsame : (listed.setIfInBounds i true).getD i true = true := by
      simp only [Array.getD_eq_getD_getElem?]
      rw [Array.getElem?_setIfInBounds]
      simp [show i < listed.size by omega]
    have hfil : (List.range ops.size).filter (fun i_1 => !(listed.setIfInBounds i true).getD i_1 true) = pre ++ post := p3 _ (fun k hk => by simp only [hset k true hk]) (by simp only [hsame]; rfl)
    refine wpOp_step G E R ho o2 hs fun c' a' H R' hdf => ?_
    refine ih R' (by simp [hsz]) ?_ ?_ ?_ (fun c'' a'' H' R'' hdf' => hq c'' a'' (H.trans H') R'' (by rw [hdf', hdf]))
    · intro j hj k hk
      have hgt : ∀ k, listed.getD k false = true → (listed.setIfInBounds i true).getD k false = true := by
        intro k hk
        by_cases hki : k = i
        · subst hki
          simp only [Array.getD_eq_getD_getElem?]
          rw [Array.getElem?_setIfInBounds]
          simp [show k < listed.size by omega]
        · rw [hset k false hki]; exact hk
      by_cases hji : j = i
      · subst hji
        exact hgt k (hanc k hk)
      · rw [hset j false hji] at hj
        exact hgt k (hcl j hj k hk)
    · rw [hfil]
      simp only [List.length_append, List.length_cons] at hlen ⊢
      omega
    · rw [hfil]; exact hrest

theorem region_sound {call : CallF} (G : Good P call) (E : ExtOk P ext) (hm : P.follows .mixedOrders = true) {id : Nat} {draw : Bool} {dc : DCode} (hc : cRegion P pol ops draw = some dc) {c : Cx} {fr fr' : Fr} {a : Act} (R : RelFr e c fr a.tmps) {N : Nat} (hev : evC ext call (N + 1) dc fr = some (.nrm, fr'))
    (hq : ∀ c' a', CxLe c c' → RelFr e c' fr' a'.tmps → a'.defers = a.defers → Q .normal a' c'.w) : (Code.region id ops draw).wp P Q a c.w := by
  unfold cRegion at hc
  cases hds : cOpers P pol ops ops.toList with
  | none => simp [hds] at hc
  | some ds =>
    simp only [hds] at hc
    obtain ⟨hlen, _⟩ := cOpers_at hds
    rw [Array.length_toList (xs := ops)] at hlen
    have evr : ∀ bad, evC ext call (N + 1) (.region ds bad) fr = some (.nrm, fr') → ∃ fs, run ext call ds fr = some (fr', fs) ∧ checkBad fs bad = true := by
      intro bad h
      simp only [evC] at h
      split at h
      · rename_i f fs hr
        split at h
        · rename_i hb
          simp only [Option.some.injEq, Prod.mk.injEq, true_and] at h
          subst h
          exact ⟨fs, hr, hb⟩
        · cases h
      · cases h
    cases draw with
    | false =>
      simp only [Bool.false_eq_true, if_false, Option.some.injEq] at hc
      subst hc
      obtain ⟨fs, hr, _⟩ := evr _ hev
      have hR := run_Run (ds := ds) (F := fun i => (fs[i]?).getD ([], [])) (pre := []) hr rfl (fun j f hj => by simp [hj])
      simp only [List.length_nil, hlen, ← List.range_eq_range'] at hR
      exact wp_region (wpOps_run G E hds R hR hq)
    | true =>
      simp only [if_true] at hc
      split at hc
      · rename_i hk
        simp only [Bool.and_eq_true, List.all_eq_true] at hk
        simp only [Option.some.injEq] at hc
        subst hc
        obtain ⟨fs, hr, hb⟩ := evr _ hev
        obtain ⟨hfl, hfm⟩ := run_foot hr
        have hR := run_Run (ds := ds) (F := fun i => (fs[i]?).getD ([], [])) (pre := []) hr rfl (fun j f hj => by simp [hj])
        simp only [List.length_nil, hlen, ← List.range_eq_range'] at hR
        refine wp_region_any hm ?_
        have R0 : RelFr e (c.at { c.w with drawn := c.w.drawn + 1 }) fr a.tmps := R.of_heap rfl rfl rfl rfl
        have H0 := CxLe.of_heap (c := c) (w' := { c.w with drawn := c.w.drawn + 1 }) rfl
        have hall : (List.range ops.size).filter (fun i => !(Array.replicate ops.size false).getD i true) = List.range ops.size := by
          rw [List.filter_eq_self]
          intro i hi
          have := List.mem_range.1 hi
          simp [Array.getD_eq_getD_getElem?, Array.getElem?_replicate, this]
        refine wpAny_run (c := c.at { c.w with drawn := c.w.drawn + 1 }) G E hds (F := fun i => (fs[i]?).getD ([], [])) (fr' := fr') hk.1 (fun k i h1 h2 h3 x y hx hy => ?_) ops.size R0 (by simp) ?_ ?_ ?_ (fun c' a' H R' hdf => hq c' a' (H0.trans H) R' hdf)
        · have hmem : (k, i) ∈ loose (ancs ops.toList) ds.length := by
            simp only [loose, List.mem_filter]
            refine ⟨mem_pairs h1 (by omega), ?_⟩
            simpa using h3
          have hloose := hk.2 _ hmem
          simp only [looseOk, hx, hy] at hloose
          refine ⟨hloose, ?_⟩
          have hki : k < fs.length := by omega
          have hii : i < fs.length := by omega
          simp only [List.getElem?_eq_getElem hki, List.getElem?_eq_getElem hii, Option.getD_some]
          cases hmm : mayMeet ds (k, i) with
          | true =>
            obtain ⟨fx, fy, e1, e2, e3⟩ := checkBad_mem hb (k, i) (by simp only [List.mem_filter]; exact ⟨hmem, hmm⟩)
            simp only [List.getElem?_eq_getElem hki, List.getElem?_eq_getElem hii, Option.some.injEq] at e1 e2
            rw [e1, e2]; exact e3
          | false =>
            simp only [mayMeet, hx, hy] at hmm
            obtain ⟨d1, a1, a2⟩ := hfm k _ (List.getElem?_eq_getElem hki)
            obtain ⟨d2, b1, b2⟩ := hfm i _ (List.getElem?_eq_getElem hii)
            rw [hx, Option.some.injEq] at a1
            rw [hy, Option.some.injEq] at b1
            subst a1; subst b1
            exact apart_small a2 b2 hmm
        · intro j hj
          simp [Array.getD_eq_getD_getElem?, Array.getElem?_replicate] at hj
          split at hj <;> simp at hj
        · rw [hall]; simp
        · rw [hall]; exact hR
      · cases hc

end
end Go.Dev

/- Code. -/
namespace Go.Dev
open Go

variable {P : Program}

def exOf : Ex → Exit
  | .nrm => .normal
  | .exit i => .exit i
  | .goto l => .goto l
  | .ret => .ret

/-- How a run of the evaluator ends for the machine. -/
def Ends (e : Ent) (c : Cx) (a : Act) (ex : Ex) (fr' : Fr) : Exit → Act → World → Prop := fun e' a' w' => e' = exOf ex ∧ ∃ c', c'.w = w' ∧ CxLe c c' ∧ RelFr e c' fr' a'.tmps ∧ a'.defers = a.defers

theorem Ends.later {e : Ent} {c c1 : Cx} {a a1 : Act} {ex : Ex} {fr' : Fr} (H : CxLe c c1) (hd : a1.defers = a.defers) {e' : Exit} {a' : Act} {w' : World} (h : Ends e c1 a1 ex fr' e' a' w') : Ends e c a ex fr' e' a' w' := by
  obtain ⟨h1, c', h2, h3, h4, h5⟩ := h
  exact ⟨h1, c', h2, H.trans h3, h4, by rw [h5, hd]⟩

def LoopWp (P : Program) (c : Code) (Q : Exit → Act → World → Prop) (a : Act) (w : World) : Prop :=
  ∀ (b : Frame) (k : List Item) (cs : List Frame), ∃ e a' w', Q e a' w' ∧ Arrives P (lone (b.at a (.code c :: .inLoop c :: k)) cs w) b k cs e a' w'

theorem LoopWp.round {c : Code} {Q : Exit → Act → World → Prop} {a : Act} {w : World} (h : c.wp P (Exit.then (LoopWp P c Q) Q) a w) : LoopWp P c Q a w := by
  intro b k cs
  obtain ⟨e, a₁, w₁, hq, harr⟩ := h b (.inLoop c :: k) cs
  cases e with
  | normal =>
    obtain ⟨e₂, a₂, w₂, hq₂, harr₂⟩ := hq b k cs
    exact ⟨e₂, a₂, w₂, hq₂, .of_steps (Steps.trans harr (.one step_inLoop)) harr₂⟩
  | exit id => exact ⟨_, a₁, w₁, hq, .pass (x := .inLoop c) rfl (fun _ _ => .inl (by simp)) harr⟩
  | goto l => exact ⟨_, a₁, w₁, hq, .pass (x := .inLoop c) rfl (fun _ _ => .inl (by simp)) harr⟩
  | ret => exact ⟨_, a₁, w₁, hq, .pass (x := .inLoop c) rfl (fun _ _ => .inl (by simp)) harr⟩
  | panic ch => exact ⟨_, a₁, w₁, hq, .pass (x := .inLoop c) rfl (fun _ _ => .inl (by simp)) harr⟩
  | outgrown => exact ⟨_, a₁, w₁, hq, .pass (x := .inLoop c) rfl (fun _ _ => .inl (by simp)) harr⟩

theorem LoopWp.loop {c : Code} {Q : Exit → Act → World → Prop} {a : Act} {w : World} (h : LoopWp P c Q a w) : (Code.loop c).wp P Q a w := by
  intro b k cs
  obtain ⟨e, a', w', hq, harr⟩ := h b k cs
  exact ⟨e, a', w', hq, .of_steps (.one step_loop) harr⟩

def ScWp (P : Program) (body c : Code) (Q : Exit → Act → World → Prop) (a : Act) (w : World) : Prop :=
  ∀ (b : Frame) (k : List Item) (cs : List Frame), ∃ e a' w', Q e a' w' ∧ Arrives P (lone (b.at a (.code c :: .inScope body :: k)) cs w) b k cs e a' w'

theorem ScWp.scope {c : Code} {Q : Exit → Act → World → Prop} {a : Act} {w : World} (h : ScWp P c c Q a w) : (Code.scope c).wp P Q a w := by
  intro b k cs
  obtain ⟨e, a', w', hq, harr⟩ := h b k cs
  exact ⟨e, a', w', hq, .of_steps (.one step_scope) harr⟩

/-- The part ends without a jump. -/
theorem ScWp.plain {body c : Code} {Q : Exit → Act → World → Prop} {a : Act} {w : World} (h : c.wp P (Exit.noGoto Q) a w) : ScWp P body c Q a w := by
  intro b k cs
  obtain ⟨e, a₁, w₁, hq, harr⟩ := h b (.inScope body :: k) cs
  cases e with
  | normal => exact ⟨.normal, a₁, w₁, hq, Steps.trans harr (.one step_inScope)⟩
  | exit id => exact ⟨.exit id, a₁, w₁, hq, fun k' hk => harr k' (by simp [exitTo, hk])⟩
  | goto l => exact hq.elim
  | ret => exact ⟨_, a₁, w₁, hq, harr⟩
  | panic ch => exact ⟨_, a₁, w₁, hq, harr⟩
  | outgrown => exact ⟨_, a₁, w₁, hq, harr⟩

/-- It jumps to a label of the scope. -/
theorem ScWp.jump {body c rest : Code} {l : Nat} {Q : Exit → Act → World → Prop} {a : Act} {w : World} (hf : findLabel body l = some rest) (h : c.wp P (fun e a' w' => e = .goto l ∧ ScWp P body rest Q a' w') a w) : ScWp P body c Q a w := by
  intro b k cs
  have hg : gotoIn l (.inScope body :: k) = some (.code rest :: .inScope body :: k) := by simp [gotoIn, hf]
  obtain ⟨e, a₁, w₁, hq, harr⟩ := h b (.inScope body :: k) cs
  obtain ⟨rfl, hq⟩ := hq
  obtain ⟨e₂, a₂, w₂, hq₂, harr₂⟩ := hq b k cs
  exact ⟨e₂, a₂, w₂, hq₂, .of_steps (harr _ hg) harr₂⟩

/-- It jumps out of the scope. -/
theorem ScWp.out {body c : Code} {l : Nat} {Q : Exit → Act → World → Prop} {a : Act} {w : World} (hf : findLabel body l = none) (h : c.wp P (fun e a' w' => e = .goto l ∧ Q (.goto l) a' w') a w) : ScWp P body c Q a w := by
  intro b k cs
  obtain ⟨e, a₁, w₁, hq, harr⟩ := h b (.inScope body :: k) cs
  obtain ⟨rfl, hq⟩ := hq
  exact ⟨.goto l, a₁, w₁, hq, fun k' hk => harr k' (by simp [gotoIn, hf, hk])⟩

theorem findL_rel {pol : Pol} : ∀ {code : Code} {dc : DCode}, cC P pol code = some dc → ∀ l, (∀ r, findL dc l = some r → ∃ rest, findLabel code l = some rest ∧ cC P pol rest = some r) ∧ (findL dc l = none → findLabel code l = none) := by
  intro code
  induction code with
  | seq x y ihx ihy =>
    intro dc h l
    simp only [cC] at h
    split at h
    · rename_i p q hp hq
      simp only [Option.some.injEq] at h
      subst h
      obtain ⟨x1, x2⟩ := ihx hp l
      obtain ⟨y1, y2⟩ := ihy hq l
      simp only [findL, findLabel]
      cases hfp : findL p l with
      | some r =>
        obtain ⟨rest, r1, r2⟩ := x1 r hfp
        simp only [r1]
        refine ⟨fun r' hr' => ⟨_, rfl, ?_⟩, by simp⟩
        simp only [Option.some.injEq] at hr'
        subst hr'
        simp only [cC, r2, hq]
      | none =>
        simp only [x2 hfp]
        exact ⟨y1, y2⟩
    · cases h
  | label l' =>
    intro dc h l
    simp only [cC, Option.some.injEq] at h
    subst h
    simp only [findL, findLabel]
    split
    · refine ⟨fun r hr => ⟨_, rfl, ?_⟩, by simp⟩
      simp only [Option.some.injEq] at hr
      subst hr
      rfl
    · simp
  | region id ops draw =>
    intro dc h l
    simp only [cC, cRegion] at h
    split at h
    · cases h
    · split at h
      · split at h
        · simp only [Option.some.injEq] at h; subst h; simp [findL, findLabel]
        · cases h
      · simp only [Option.some.injEq] at h; subst h; simp [findL, findLabel]
  | cond x y z _ _ =>
    intro dc h l
    simp only [cC] at h
    split at h
    · simp only [Option.some.injEq] at h; subst h; simp [findL, findLabel]
    · cases h
  | block i c _ =>
    intro dc h l
    simp only [cC] at h
    cases hc : cC P pol c with
    | none => simp [hc] at h
    | some d => simp only [hc, Option.map_some, Option.some.injEq] at h; subst h; simp [findL, findLabel]
  | loop c _ =>
    intro dc h l
    simp only [cC] at h
    cases hc : cC P pol c with
    | none => simp [hc] at h
    | some d => simp only [hc, Option.map_some, Option.some.injEq] at h; subst h; simp [findL, findLabel]
  | scope c _ =>
    intro dc h l
    simp only [cC] at h
    cases hc : cC P pol c with
    | none => simp [hc] at h
    | some d => simp only [hc, Option.map_some, Option.some.injEq] at h; subst h; simp [findL, findLabel]
  | _ =>
    intro dc h l
    simp only [cC, Option.some.injEq, reduceCtorEq] at h
    try (subst h; simp [findL, findLabel])

section
variable {ext : Ext} {call : CallF} {e : Ent} {pol : Pol}

theorem cond_rel {c : Cx} {fr : Fr} {a : Act} (R : RelFr e c fr a.tmps) {x : Operand} {x' : Opd} (hx : cOpd x = some x') {b : Bool} (h : fr.get x' = .one (.v (.s (.bool b)))) : a.eval x = .bool b := by
  have := get_rel R hx
  rw [h] at this
  exact this.lit.1

theorem code_sound (G : Good P call) (E : ExtOk P ext) (hm : P.follows .mixedOrders = true) : ∀ (N : Nat) (dc : DCode) (fr : Fr) (ex : Ex) (fr' : Fr), evC ext call N dc fr = some (ex, fr') →
    (∀ (code : Code) (c : Cx) (a : Act), cC P pol code = some dc → RelFr e c fr a.tmps → code.wp P (Ends e c a ex fr') a c.w) ∧
    (∀ (b : DCode) (code : Code) (c : Cx) (a : Act), dc = .loop b → cC P pol code = some b → RelFr e c fr a.tmps → LoopWp P code (Ends e c a ex fr') a c.w) ∧
    (∀ (bd r : DCode) (body rest : Code) (c : Cx) (a : Act), dc = .sc bd r → cC P pol body = some bd → cC P pol rest = some r → RelFr e c fr a.tmps → ScWp P body rest (Ends e c a ex fr') a c.w) := by
  intro N
  induction N with
  | zero => intro dc fr ex fr' h; simp [evC] at h
  | succ N ih =>
    intro dc fr ex fr' h
    have hloop : ∀ (b : DCode) (code : Code) (c : Cx) (a : Act), dc = .loop b → cC P pol code = some b → RelFr e c fr a.tmps → LoopWp P code (Ends e c a ex fr') a c.w := by
      intro b code c a hdc hcode R
      subst hdc
      simp only [evC] at h
      refine LoopWp.round ?_
      cases hb : evC ext call N b fr with
      | none => simp [hb] at h
      | some q =>
        obtain ⟨ex1, fr1⟩ := q
        refine wp_mono ((ih b fr ex1 fr1 hb).1 code c a hcode R) fun e' a' w' hen => ?_
        obtain ⟨rfl, c1, rfl, H1, R1, hd1⟩ := hen
        cases ex1 with
        | nrm =>
          simp only [hb] at h
          have := (ih (.loop b) fr1 ex fr' h).2.1 b code c1 a' rfl hcode R1
          simp only [exOf, Exit.then]
          intro bb k cs
          obtain ⟨e2, a2, w2, hq2, harr⟩ := this bb k cs
          exact ⟨e2, a2, w2, hq2.later H1 hd1, harr⟩
        | exit i => simp only [hb, Option.some.injEq, Prod.mk.injEq] at h; obtain ⟨rfl, rfl⟩ := h; exact ⟨rfl, c1, rfl, H1, R1, hd1⟩
        | goto l => simp only [hb, Option.some.injEq, Prod.mk.injEq] at h; obtain ⟨rfl, rfl⟩ := h; exact ⟨rfl, c1, rfl, H1, R1, hd1⟩
        | ret => simp only [hb, Option.some.injEq, Prod.mk.injEq] at h; obtain ⟨rfl, rfl⟩ := h; exact ⟨rfl, c1, rfl, H1, R1, hd1⟩
    have hsc : ∀ (bd r : DCode) (body rest : Code) (c : Cx) (a : Act), dc = .sc bd r → cC P pol body = some bd → cC P pol rest = some r → RelFr e c fr a.tmps → ScWp P body rest (Ends e c a ex fr') a c.w := by
      intro bd r body rest c a hdc hbody hrest R
      subst hdc
      simp only [evC] at h
      cases hb : evC ext call N r fr with
      | none => simp [hb] at h
      | some q =>
        obtain ⟨ex1, fr1⟩ := q
        have hw := (ih r fr ex1 fr1 hb).1 rest c a hrest R
        cases ex1 with
        | goto l =>
          simp only [hb] at h
          cases hf : findL bd l with
          | none =>
            simp only [hf, Option.some.injEq, Prod.mk.injEq] at h
            obtain ⟨rfl, rfl⟩ := h
            refine ScWp.out (l := l) ((findL_rel hbody l).2 hf) (wp_mono hw fun e' a' w' hen => ?_)
            obtain ⟨rfl, hh⟩ := hen
            exact ⟨rfl, rfl, hh⟩
          | some r' =>
            simp only [hf] at h
            obtain ⟨rest', q1, q2⟩ := (findL_rel hbody l).1 r' hf
            refine ScWp.jump q1 (wp_mono hw fun e' a' w' hen => ?_)
            obtain ⟨rfl, c1, rfl, H1, R1, hd1⟩ := hen
            refine ⟨rfl, ?_⟩
            have := (ih (.sc bd r') fr1 ex fr' h).2.2 bd r' body rest' c1 a' rfl hbody q2 R1
            intro bb k cs
            obtain ⟨e2, a2, w2, hq2, harr⟩ := this bb k cs
            exact ⟨e2, a2, w2, hq2.later H1 hd1, harr⟩
        | nrm => simp only [hb, Option.some.injEq, Prod.mk.injEq] at h; obtain ⟨rfl, rfl⟩ := h; exact ScWp.plain (wp_mono hw fun e' a' w' hen => by obtain ⟨rfl, hh⟩ := hen; exact ⟨rfl, hh⟩)
        | exit i => simp only [hb, Option.some.injEq, Prod.mk.injEq] at h; obtain ⟨rfl, rfl⟩ := h; exact ScWp.plain (wp_mono hw fun e' a' w' hen => by obtain ⟨rfl, hh⟩ := hen; exact ⟨rfl, hh⟩)
        | ret => simp only [hb, Option.some.injEq, Prod.mk.injEq] at h; obtain ⟨rfl, rfl⟩ := h; exact ScWp.plain (wp_mono hw fun e' a' w' hen => by obtain ⟨rfl, hh⟩ := hen; exact ⟨rfl, hh⟩)
    refine ⟨fun code c a hc R => ?_, hloop, hsc⟩
    cases code with
    | skip =>
      simp only [cC, Option.some.injEq] at hc
      subst hc
      simp only [evC, Option.some.injEq, Prod.mk.injEq] at h
      obtain ⟨rfl, rfl⟩ := h
      exact wp_skip ⟨rfl, c, rfl, CxLe.refl c, R, rfl⟩
    | label l =>
      simp only [cC, Option.some.injEq] at hc
      subst hc
      simp only [evC, Option.some.injEq, Prod.mk.injEq] at h
      obtain ⟨rfl, rfl⟩ := h
      exact wp_label ⟨rfl, c, rfl, CxLe.refl c, R, rfl⟩
    | exit i =>
      simp only [cC, Option.some.injEq] at hc
      subst hc
      simp only [evC, Option.some.injEq, Prod.mk.injEq] at h
      obtain ⟨rfl, rfl⟩ := h
      exact wp_exit ⟨rfl, c, rfl, CxLe.refl c, R, rfl⟩
    | goto l =>
      simp only [cC, Option.some.injEq] at hc
      subst hc
      simp only [evC, Option.some.injEq, Prod.mk.injEq] at h
      obtain ⟨rfl, rfl⟩ := h
      exact wp_goto ⟨rfl, c, rfl, CxLe.refl c, R, rfl⟩
    | ret =>
      simp only [cC, Option.some.injEq] at hc
      subst hc
      simp only [evC, Option.some.injEq, Prod.mk.injEq] at h
      obtain ⟨rfl, rfl⟩ := h
      exact wp_ret ⟨rfl, c, rfl, CxLe.refl c, R, rfl⟩
    | refuse m =>
      simp only [cC, Option.some.injEq] at hc
      subst hc
      simp [evC] at h
    | region id ops draw =>
      simp only [cC] at hc
      have hnrm : ex = .nrm := by
        unfold cRegion at hc
        split at hc
        · cases hc
        · split at hc
          · dsimp only at hc
            split at hc
            · simp only [Option.some.injEq] at hc
              subst hc
              simp only [evC] at h
              split at h
              · split at h
                · simp only [Option.some.injEq, Prod.mk.injEq] at h; exact h.1.symm
                · cases h
              · cases h
            · cases hc
          · simp only [Option.some.injEq] at hc
            subst hc
            simp only [evC] at h
            split at h
            · split at h
              · simp only [Option.some.injEq, Prod.mk.injEq] at h; exact h.1.symm
              · cases h
            · cases h
      subst hnrm
      exact region_sound G E hm hc R h fun c' a' H R' hd => ⟨rfl, c', rfl, H, R', hd⟩
    | seq x y =>
      simp only [cC] at hc
      split at hc
      · rename_i p q hp hq
        simp only [Option.some.injEq] at hc
        subst hc
        simp only [evC] at h
        cases hb : evC ext call N p fr with
        | none => simp [hb] at h
        | some r =>
          obtain ⟨ex1, fr1⟩ := r
          refine wp_seq (wp_mono ((ih p fr ex1 fr1 hb).1 x c a hp R) fun e' a' w' hen => ?_)
          obtain ⟨rfl, c1, rfl, H1, R1, hd1⟩ := hen
          cases ex1 with
          | nrm =>
            simp only [hb] at h
            simp only [exOf, Exit.then]
            exact wp_mono ((ih q fr1 ex fr' h).1 y c1 a' hq R1) fun e2 a2 w2 h2 => h2.later H1 hd1
          | exit i => simp only [hb, Option.some.injEq, Prod.mk.injEq] at h; obtain ⟨rfl, rfl⟩ := h; exact ⟨rfl, c1, rfl, H1, R1, hd1⟩
          | goto l => simp only [hb, Option.some.injEq, Prod.mk.injEq] at h; obtain ⟨rfl, rfl⟩ := h; exact ⟨rfl, c1, rfl, H1, R1, hd1⟩
          | ret => simp only [hb, Option.some.injEq, Prod.mk.injEq] at h; obtain ⟨rfl, rfl⟩ := h; exact ⟨rfl, c1, rfl, H1, R1, hd1⟩
      · cases hc
    | cond x y z =>
      simp only [cC] at hc
      split at hc
      · rename_i x' y' z' hx hy hz
        simp only [Option.some.injEq] at hc
        subst hc
        simp only [evC] at h
        split at h
        · rename_i t ht
          refine wp_cond (cond_rel R hx ht) ?_
          cases t with
          | true => exact (ih y' fr ex fr' (by simpa using h)).1 y c a hy R
          | false => exact (ih z' fr ex fr' (by simpa using h)).1 z c a hz R
        · cases h
      · cases hc
    | block i x =>
      simp only [cC] at hc
      cases hx : cC P pol x with
      | none => simp [hx] at hc
      | some x' =>
        simp only [hx, Option.map_some, Option.some.injEq] at hc
        subst hc
        simp only [evC] at h
        cases hb : evC ext call N x' fr with
        | none => simp [hb] at h
        | some r =>
          obtain ⟨ex1, fr1⟩ := r
          refine wp_block (wp_mono ((ih x' fr ex1 fr1 hb).1 x c a hx R) fun e' a' w' hen => ?_)
          obtain ⟨rfl, c1, rfl, H1, R1, hd1⟩ := hen
          cases ex1 with
          | nrm => simp only [hb, Option.some.injEq, Prod.mk.injEq] at h; obtain ⟨rfl, rfl⟩ := h; exact ⟨rfl, c1, rfl, H1, R1, hd1⟩
          | exit j =>
            simp only [hb] at h
            simp only [exOf, Exit.inBlock]
            split at h
            · rename_i hji
              simp only [Option.some.injEq, Prod.mk.injEq] at h
              obtain ⟨rfl, rfl⟩ := h
              rw [if_pos hji]
              exact ⟨rfl, c1, rfl, H1, R1, hd1⟩
            · rename_i hji
              simp only [Option.some.injEq, Prod.mk.injEq] at h
              obtain ⟨rfl, rfl⟩ := h
              rw [if_neg hji]
              exact ⟨rfl, c1, rfl, H1, R1, hd1⟩
          | goto l => simp only [hb, Option.some.injEq, Prod.mk.injEq] at h; obtain ⟨rfl, rfl⟩ := h; exact ⟨rfl, c1, rfl, H1, R1, hd1⟩
          | ret => simp only [hb, Option.some.injEq, Prod.mk.injEq] at h; obtain ⟨rfl, rfl⟩ := h; exact ⟨rfl, c1, rfl, H1, R1, hd1⟩
    | loop x =>
      simp only [cC] at hc
      cases hx : cC P pol x with
      | none => simp [hx] at hc
      | some x' =>
        simp only [hx, Option.map_some, Option.some.injEq] at hc
        exact (hloop x' x c a hc.symm hx R).loop
    | scope x =>
      simp only [cC] at hc
      cases hx : cC P pol x with
      | none => simp [hx] at hc
      | some x' =>
        simp only [hx, Option.map_some, Option.some.injEq] at hc
        subst hc
        simp only [evC] at h
        exact ((ih (.sc x' x') fr ex fr' h).2.2 x' x' x x c a rfl hx hx R).scope
    | rangeFunc _ _ _ _ => simp [cC] at hc

end
end Go.Dev

/- Functions: the entry, the results. -/
namespace Go.Dev
open Go

variable {P : Program}

/-- The callee's own view: its homes lie behind those of its variables. -/
def Cx.into (c : Cx) (n : Nat) : Cx := { c with gen := fun _ => 0, gh := { c.gh with β := fun h => c.gh.β (h - 2 * n), ow := fun b => match c.gh.ow b with | .home h => .home (2 * n + h) | x => x } }

section
variable {c : Cx} {n : Nat}

mutual
theorem into_rel : ∀ (x : C) (v : Value), RelC c x v → handed x = true → RelC (c.into n) x v
  | .v x, v, h, _ => by simp only [RelC] at h ⊢; exact h
  | .esl, v, h, _ => by simp only [RelC] at h ⊢; exact h
  | .lin _ _ _ _, v, _, hh => by simp [handed] at hh
  | .osl (.fo i) sz off len, v, h, _ => by simp only [RelC] at h ⊢; exact h
  | .osl (.loc _ _) _ _ _, v, _, hh => by simp [handed] at hh
  | .ref (.fo i) off, v, h, _ => by simp only [RelC] at h ⊢; exact h
  | .ref (.loc _ _) _, v, _, hh => by simp [handed] at hh
  | .fn f a b, v, h, hh => by
    simp only [RelC] at h ⊢
    simp only [handed, Bool.and_eq_true] at hh
    obtain ⟨fa, fb, e, h1, h2⟩ := h
    exact ⟨fa, fb, e, intoL_rel a fa h1 hh.1, intoL_rel b fb h2 hh.2⟩
  | .own _ _, v, h, _ => by simp only [RelC] at h ⊢; exact h
  | .sd _ _ _ _, v, _, hh => by simp [handed] at hh
  | .dead, v, h, _ => by simp only [RelC] at h ⊢; exact h
theorem intoL_rel : ∀ (xs : List C) (vs : List Value), RelCs c xs vs → handedL xs = true → RelCs (c.into n) xs vs
  | [], [], _, _ => by simp [RelCs]
  | x :: xs, v :: vs, h, hh => by
    simp only [RelCs] at h ⊢
    simp only [handedL, Bool.and_eq_true] at hh
    exact ⟨into_rel x v h.1 hh.1, intoL_rel xs vs h.2 hh.2⟩
  | [], _ :: _, h, _ => by simp [RelCs] at h
  | _ :: _, [], h, _ => by simp [RelCs] at h
end

mutual
theorem intoT_rel : ∀ (x : T) (v : Value), RelT c x v → handedT x = true → RelT (c.into n) x v
  | .one x, v, h, hh => by
    by_cases hx : x = .dead
    · subst hx; simp [RelT]
    · exact RelT.one (into_rel x v (h.one_live hx) hh)
  | .agg cs, v, h, hh => by
    simp only [RelT] at h ⊢
    obtain ⟨arr, e, r⟩ := h
    exact ⟨arr, e, intoL_rel cs arr r hh⟩
  | .tup ts, v, h, hh => by
    simp only [RelT] at h ⊢
    obtain ⟨arr, e, r⟩ := h
    exact ⟨arr, e, intoTs_rel ts arr r hh⟩
theorem intoTs_rel : ∀ (xs : List T) (vs : List Value), RelTs c xs vs → handedTs xs = true → RelTs (c.into n) xs vs
  | [], [], _, _ => by simp [RelTs]
  | x :: xs, v :: vs, h, hh => by
    simp only [RelTs] at h ⊢
    simp only [handedTs, Bool.and_eq_true] at hh
    exact ⟨intoT_rel x v h.1 hh.1, intoTs_rel xs vs h.2 hh.2⟩
  | [], _ :: _, h, _ => by simp [RelTs] at h
  | _ :: _, [], h, _ => by simp [RelTs] at h
end

theorem RelTs.len : ∀ {xs : List T} {vs : List Value}, RelTs c xs vs → xs.length = vs.length
  | [], [], _ => rfl
  | _ :: _, _ :: _, h => by simp only [RelTs] at h; simp [RelTs.len h.2]
  | [], _ :: _, h => by simp [RelTs] at h
  | _ :: _, [], h => by simp [RelTs] at h

theorem RelTs.get : ∀ {xs : List T} {vs : List Value}, RelTs c xs vs → ∀ {i : Nat} {x : T}, xs[i]? = some x → ∃ v, vs[i]? = some v ∧ RelT c x v
  | [], [], _, i, x, hx => by simp at hx
  | x :: xs, v :: vs, h, i, y, hy => by
    simp only [RelTs] at h
    cases i with
    | zero => simp at hy; subst hy; exact ⟨v, rfl, h.1⟩
    | succ i => simpa using RelTs.get h.2 (i := i) (x := y) (by simpa using hy)
  | [], _ :: _, h, _, _, _ => by simp [RelTs] at h
  | _ :: _, [], h, _, _, _ => by simp [RelTs] at h

/-- A variable's cells, as they come in. -/
theorem intoO_rel (hgen : c.gen = fun _ => 0) {i : Nat} : ∀ {xs : List C}, handedL xs = true → ∀ (j : Nat) (y : C), (enterO (2 * n + i) xs)[j]? = some y → ∃ x, (enterO i xs)[j]? = some x ∧ ∀ v, RelC c x v → RelC (c.into n) y v
  | [], _, j, y, hy => by simp [enterO] at hy
  | x :: xs, hh, j, y, hy => by
    simp only [handedL, Bool.and_eq_true] at hh
    have key : ∃ x' y', enterO i (x :: xs) = x' :: enterO i xs ∧ enterO (2 * n + i) (x :: xs) = y' :: enterO (2 * n + i) xs ∧ ∀ v, RelC c x' v → RelC (c.into n) y' v := by
      cases x with
      | own ty es =>
        refine ⟨.lin i 0 ty es, .lin (2 * n + i) 0 ty es, by simp only [enterO], by simp only [enterO], fun v hv => ?_⟩
        simp only [RelC] at hv ⊢
        obtain ⟨h1, h2, h3⟩ := hv
        refine ⟨h1, Nat.le_refl _, fun _ => ?_⟩
        obtain ⟨o, len, cap, arr, fz, sz, e1, e2, e3, e4, e5, e6, e7, e8, e9, e10, e11⟩ := h3 (by rw [hgen])
        have hβ : (c.into n).gh.β (2 * n + i) = c.gh.β i := by simp only [Cx.into, Nat.add_sub_cancel_left]
        refine ⟨o, len, cap, arr, fz, sz, by rw [hβ]; exact e1, e2, e3, e4, e5, e6, by rw [hβ]; exact e7, by rw [hβ]; exact e8, e9, e10, ?_⟩
        rw [hβ]
        simp only [Cx.into, e11]
      | v z => exact ⟨_, _, by simp only [enterO], by simp only [enterO], fun v hv => into_rel _ v hv hh.1⟩
      | esl => exact ⟨_, _, by simp only [enterO], by simp only [enterO], fun v hv => into_rel _ v hv hh.1⟩
      | lin _ _ _ _ => simp [handed] at hh
      | osl k' sz off len => exact ⟨_, _, by simp only [enterO], by simp only [enterO], fun v hv => into_rel _ v hv hh.1⟩
      | ref k' off => exact ⟨_, _, by simp only [enterO], by simp only [enterO], fun v hv => into_rel _ v hv hh.1⟩
      | fn f a b => exact ⟨_, _, by simp only [enterO], by simp only [enterO], fun v hv => into_rel _ v hv hh.1⟩
      | sd _ _ _ _ => simp [handed] at hh
      | dead => exact ⟨_, _, by simp only [enterO], by simp only [enterO], fun v hv => into_rel _ v hv hh.1⟩
    obtain ⟨x', y', k1, k2, k3⟩ := key
    rw [k2] at hy
    rw [k1]
    cases j with
    | zero => simp at hy; subst hy; exact ⟨x', rfl, k3⟩
    | succ j => simpa using intoO_rel hgen hh.2 j y (by simpa using hy)

theorem fn_entry {e0 : Ent} {fo : List Ob} {args : List T} {vs : List Value} (d : DFn) (he : e0 = ⟨c.w, c.gh.G, c.gh.ow⟩) (R : RelFr e0 c (HandF fo) #[]) (ha : RelTs c args vs) (hh : handedTs args = true) (ho : handedO fo = true) :
    RelFr ⟨c.w, c.gh.G, (c.into d.ntmps).gh.ow⟩ (c.into d.ntmps) (enter d args fo) (⟨vs⟩ ++ Array.replicate (d.ntmps - vs.length) undef) where
  gen := by
    funext h
    simp only [Cx.into, genOf, enter, List.getElem?_replicate]
    split <;> rfl
  nfo := by simp only [Cx.into, enter, enterF_len]; have := R.nfo; simpa [HandF, enterF_len] using this
  tsz := by simp only [enter, Array.size_append, Array.size_replicate, List.length_append, List.length_replicate, ha.len]; rfl
  tms := fun t x hx => by
    simp only [enter] at hx
    rcases Nat.lt_or_ge t args.length with hlt | hge
    · rw [List.getElem?_append_left hlt] at hx
      obtain ⟨v, v1, v2⟩ := ha.get hx
      have : (⟨vs⟩ ++ Array.replicate (d.ntmps - vs.length) undef : Array Value).getD t undef = v := by
        rw [Array.getD_eq_getD_getElem?, Array.getElem?_append_left (by rw [ha.len] at hlt; exact hlt)]
        simp [v1]
      rw [this]
      exact intoT_rel x v v2 (by
        clear this v1 v2
        induction args generalizing t vs with
        | nil => simp at hlt
        | cons y ys ih =>
          simp only [handedTs, Bool.and_eq_true] at hh
          cases t with
          | zero => simp at hx; subst hx; exact hh.1
          | succ t =>
            cases vs with
            | nil => simp [RelTs] at ha
            | cons u us => simp only [RelTs] at ha; exact ih ha.2 hh.2 t (by simpa using hx) (by simpa using hlt))
    · rw [List.getElem?_append_right hge, List.getElem?_replicate] at hx
      split at hx
      · simp only [Option.some.injEq] at hx; subst hx; simp [RelT]
      · cases hx
  bxs := fun h o h1 h2 => by
    simp only [enter, List.getElem?_replicate] at h1
    split at h1
    · simp only [Option.some.injEq] at h1; subst h1; exact absurd rfl h2
    · cases h1
  fos := fun i o h1 h2 => by
    simp only [enter, enterF_at, Nat.zero_add] at h1
    cases hq : fo[i]? with
    | none => simp [hq] at h1
    | some q =>
      simp only [hq, Option.map_some, Option.some.injEq] at h1
      subst h1
      have hf : (HandF fo).fo[i]? = some ⟨0, q.ty, enterO i q.cs⟩ := by simp only [HandF, enterF_at, hq, Option.map_some, Nat.mul_zero, Nat.zero_add]
      have hqh : handedL q.cs = true := List.all_eq_true.1 ho q (List.mem_of_getElem? hq)
      obtain ⟨arr, ty, k1, k2, k3, k4, k5⟩ := R.fos i _ hf (by
        intro k0
        have := congrArg List.length k0
        simp only [enterO_len, List.length_nil] at this
        refine h2 (List.length_eq_zero_iff.1 ?_)
        simp only [enterO_len, this])
      refine ⟨arr, ty, k1, fun hty => ?_, fun j y hy => ?_, k4, ?_⟩
      · have := k2 hty
        simpa only [enterO_len] using this
      · obtain ⟨x, x1, x2⟩ := intoO_rel (n := d.ntmps) (by rw [R.gen, HandF_gen]) hqh j y hy
        obtain ⟨v, v1, v2⟩ := k3 j x x1
        exact ⟨v, v1, x2 v v2⟩
      · simp only [Cx.into]
        rw [k5]
  old := fun _ _ _ => rfl
  ows := fun _ _ h => ⟨h, rfl⟩
  size := Nat.le_refl _
  os := rfl
  tape := rfl
  output := rfl

end

/-! ### Results -/

def resM (tmps : Array Value) : ResultVar → Sem Value
  | .tmp t => pure (tmps.getD t undef)
  | .cell a t => do loadVar t (← asAddr (tmps.getD a undef))

def resD (P : Program) : ResultVar → Option DRes
  | .tmp t => some (.t t)
  | .cell a ty => (szO P ty).map (DRes.cell a)

theorem getRes_rel {e : Ent} {c : Cx} {fr : Fr} {tmps : Array Value} (R : RelFr e c fr tmps) {r : ResultVar} {d : DRes} {t : T} (hr : resD P r = some d) (h : getRes fr d = some t) :
    ∃ v, (resM tmps r).run P c.w = .ok v c.w ∧ RelT c t v := by
  cases r with
  | tmp n =>
    simp only [resD, Option.some.injEq] at hr
    subst hr
    simp only [getRes] at h
    exact ⟨_, rfl, R.tms n t h⟩
  | cell a ty =>
    cases hs : szO P ty with
    | none => simp [resD, hs] at hr
    | some sz =>
      simp only [resD, hs, Option.map_some, Option.some.injEq] at hr
      subst hr
      simp only [getRes] at h
      split at h
      · rename_i h' g off htm
        split at h
        · rename_i o ho
          split at h
          · rename_i hg
            have hrel := (R.tms a _ htm).one_live (by simp)
            simp only [RelC] at hrel
            obtain ⟨_, b, hv, hb⟩ := hrel
            have hbb := hb (by simp only [Key.ok]; rw [R.gen, Fr.ob_loc ho hg])
            simp only [Key.blk] at hbb
            subst hbb
            obtain ⟨v, v1, v2⟩ := load_core (P := P) (c := c) hs (b := c.gh.β h') (base := 0) h (fun i x hx => by
              have hne : o.cs ≠ [] := by intro k; rw [k] at hx; simp at hx
              obtain ⟨arr, ty', k1, k2, k3, _⟩ := R.bxs h' o ho hne
              obtain ⟨u, u1, u2⟩ := k3 i x hx
              exact ⟨u, by rw [cell_of_heap k1, Nat.zero_add]; exact u1, u2⟩)
            rw [Nat.zero_add] at v1
            refine ⟨v, ?_, v2⟩
            simp only [resM, hv, asAddr, Sem.run_bind, Sem.run_pure, Result.andThen_ok]
            exact v1
          · cases h
        · cases h
      · cases h

theorem cRes_cons {r : ResultVar} {rs : List ResultVar} {ds : List DRes} (h : cRes P (r :: rs) = some ds) : ∃ d ds', ds = d :: ds' ∧ resD P r = some d ∧ cRes P rs = some ds' := by
  cases r with
  | tmp n =>
    simp only [cRes] at h
    cases hr : cRes P rs with
    | none => simp [hr] at h
    | some ds' => simp only [hr, Option.map_some, Option.some.injEq] at h; exact ⟨_, ds', h.symm, rfl, rfl⟩
  | cell a ty =>
    simp only [cRes] at h
    split at h
    · rename_i sz ds' h1 h2
      simp only [Option.some.injEq] at h
      exact ⟨_, ds', h.symm, by simp only [resD, h1, Option.map_some], h2⟩
    · cases h

theorem getAll_rel {e : Ent} {c : Cx} {fr : Fr} {tmps : Array Value} (R : RelFr e c fr tmps) : ∀ {rs : List ResultVar} {ds : List DRes} {ts : List T}, cRes P rs = some ds → getAll fr ds = some ts →
    ∃ vs, (rs.mapM (resM tmps)).run P c.w = .ok vs c.w ∧ RelTs c ts vs
  | [], ds, ts, h1, h2 => by
    simp only [cRes, Option.some.injEq] at h1
    subst h1
    simp only [getAll, Option.some.injEq] at h2
    subst h2
    exact ⟨[], by simp [List.mapM_nil], by simp [RelTs]⟩
  | r :: rs, ds, ts, h1, h2 => by
    obtain ⟨d, ds', rfl, k1, k2⟩ := cRes_cons h1
    simp only [getAll] at h2
    split at h2
    · rename_i t ts' g1 g2
      simp only [Option.some.injEq] at h2
      subst h2
      obtain ⟨v, v1, v2⟩ := getRes_rel R k1 g1
      obtain ⟨vs, w1, w2⟩ := getAll_rel R k2 g2
      refine ⟨v :: vs, ?_, by simp only [RelTs]; exact ⟨v2, w2⟩⟩
      rw [List.mapM_cons]
      simp only [Sem.run_bind, v1, Result.andThen_ok, w1, Sem.run_pure]
    · cases h2

/-- The value that a function gives. -/
def resV : List Value → Value
  | [v] => v
  | vs => .tuple ⟨vs⟩

theorem results_rel {e : Ent} {c : Cx} {fr : Fr} {tmps : Array Value} (R : RelFr e c fr tmps) {fn : Func} {ds : List DRes} {ts : List T} (h1 : cRes P fn.results.toList = some ds) (h2 : getAll fr ds = some ts) : ∃ vs, RelTs c ts vs ∧ (results fn tmps).run P c.w = .ok (resV vs) c.w := by
  obtain ⟨vs, v1, v2⟩ := getAll_rel R h1 h2
  refine ⟨vs, v2, ?_⟩
  have hres : results fn tmps = (do let vs ← fn.results.mapM (resM tmps); pure (if h : vs.size = 1 then vs[0] else .tuple vs)) := by
    unfold results
    congr 1
  rw [hres, Array.mapM_eq_mapM_toList, Sem.run_bind, Sem.run_map, v1]
  simp only [Result.andThen_ok, Sem.run_pure]
  match vs with
  | [] => rfl
  | [v] => rfl
  | v :: u :: vs => rfl

end Go.Dev

/- Functions: the way out. -/
namespace Go.Dev
open Go

variable {P : Program}

/-- How a cell of a variable that was handed in goes back. -/
def CoutCell (fr : Fr) (m : Option Nat) (x y : C) : Prop :=
  (∃ h g ty es o, m = some h ∧ y = .own ty es ∧ x = .lin h g ty es ∧ fr.bx[h]? = some o ∧ o.g = g) ∨ (∃ h g ty es, y = .v (.sl es) ∧ x = .lin h g ty es) ∨
  (y = x ∧ ((∃ z, x = .v z) ∨ x = .esl ∨ (∃ i off, x = .ref (.fo i) off) ∨ ∃ i sz off len, x = .osl (.fo i) sz off len)) ∨ y = .dead

theorem CoutCell.none {fr : Fr} {m : Option Nat} {x y : C} (h : CoutCell fr none x y) : CoutCell fr m x y := by
  rcases h with ⟨h', g, ty, es, o, h0, _⟩ | h | h | h
  · cases h0
  · exact .inr (.inl h)
  · exact .inr (.inr (.inl h))
  · exact .inr (.inr (.inr h))

theorem cout_spec (fr : Fr) : ∀ (cs : List C) (b : Bool) (used : List Nat), (cout fr b used cs).1.length = cs.length ∧ ∃ m : Option Nat, (b = false → m = none) ∧ (m = none → (cout fr b used cs).2 = used) ∧ (∀ h, m = some h → h ∉ used ∧ (cout fr b used cs).2 = h :: used) ∧
    ∀ (j : Nat) (y : C), (cout fr b used cs).1[j]? = some y → ∃ x, cs[j]? = some x ∧ CoutCell fr m x y
  | [], b, used => by cases b <;> exact ⟨rfl, none, fun _ => rfl, fun _ => rfl, by simp, by simp [cout]⟩
  | x :: cs, b, used => by
    have plain : ∀ z : C, cout fr b used (x :: cs) = (z :: (cout fr b used cs).1, (cout fr b used cs).2) → CoutCell fr none x z → (cout fr b used (x :: cs)).1.length = (x :: cs).length ∧ ∃ m : Option Nat, (b = false → m = none) ∧ (m = none → (cout fr b used (x :: cs)).2 = used) ∧ (∀ h, m = some h → h ∉ used ∧ (cout fr b used (x :: cs)).2 = h :: used) ∧
        ∀ (j : Nat) (y : C), (cout fr b used (x :: cs)).1[j]? = some y → ∃ x', (x :: cs)[j]? = some x' ∧ CoutCell fr m x' y := by
      intro z hz hc
      obtain ⟨h1, m, h2, h3, h4, h5⟩ := cout_spec fr cs b used
      rw [hz]
      refine ⟨by simp [h1], m, h2, h3, h4, fun j y hy => ?_⟩
      cases j with
      | zero => simp at hy; subst hy; exact ⟨x, rfl, hc.none⟩
      | succ j => simpa using h5 j y (by simpa using hy)
    cases x with
    | lin h g ty es =>
      cases ho : fr.bx[h]? with
      | none => exact plain (.v (.sl es)) (by cases b <;> simp only [cout, ho]) (.inr (.inl ⟨h, g, ty, es, rfl, rfl⟩))
      | some o =>
        by_cases hc : b = true ∧ o.g = g ∧ h ∉ used
        · obtain ⟨rfl, hg, hu⟩ := hc
          obtain ⟨h1, m, h2, h3, h4, h5⟩ := cout_spec fr cs false (h :: used)
          have hm := h2 rfl
          subst hm
          have heq : cout fr true used (.lin h g ty es :: cs) = (.own ty es :: (cout fr false (h :: used) cs).1, (cout fr false (h :: used) cs).2) := by
            simp only [cout, ho]
            rw [if_pos ⟨trivial, hg, hu⟩]
          rw [heq]
          refine ⟨by simp [h1], some h, by simp, by simp, fun h' hh => ?_, fun j y hy => ?_⟩
          · simp only [Option.some.injEq] at hh
            subst hh
            exact ⟨hu, h3 rfl⟩
          · cases j with
            | zero => simp at hy; subst hy; exact ⟨_, rfl, .inl ⟨h, g, ty, es, o, rfl, rfl, rfl, ho, hg⟩⟩
            | succ j =>
              obtain ⟨x', x1, x2⟩ := h5 j y (by simpa using hy)
              exact ⟨x', by simpa using x1, x2.none⟩
        · refine plain (.v (.sl es)) ?_ (.inr (.inl ⟨h, g, ty, es, rfl, rfl⟩))
          have hc' : ¬ (b = true ∧ o.g = g ∧ ¬ h ∈ used) := hc
          cases b <;> (simp only [cout, ho]; rw [if_neg (by simpa using hc')])
    | v z => exact plain (.v z) (by cases b <;> simp only [cout]) (.inr (.inr (.inl ⟨rfl, .inl ⟨z, rfl⟩⟩)))
    | esl => exact plain .esl (by cases b <;> simp only [cout]) (.inr (.inr (.inl ⟨rfl, .inr (.inl rfl)⟩)))
    | osl k sz off len =>
      cases k with
      | fo i => exact plain (.osl (.fo i) sz off len) (by cases b <;> simp only [cout]) (.inr (.inr (.inl ⟨rfl, .inr (.inr (.inr ⟨i, sz, off, len, rfl⟩))⟩)))
      | loc _ _ => exact plain .dead (by cases b <;> simp only [cout]) (.inr (.inr (.inr rfl)))
    | ref k off =>
      cases k with
      | fo i => exact plain (.ref (.fo i) off) (by cases b <;> simp only [cout]) (.inr (.inr (.inl ⟨rfl, .inr (.inr (.inl ⟨i, off, rfl⟩))⟩)))
      | loc _ _ => exact plain .dead (by cases b <;> simp only [cout]) (.inr (.inr (.inr rfl)))
    | fn f p q => exact plain .dead (by cases b <;> simp only [cout]) (.inr (.inr (.inr rfl)))
    | own ty es => exact plain .dead (by cases b <;> simp only [cout]) (.inr (.inr (.inr rfl)))
    | sd _ _ _ _ => exact plain .dead (by cases b <;> simp only [cout]) (.inr (.inr (.inr rfl)))
    | dead => exact plain .dead (by cases b <;> simp only [cout]) (.inr (.inr (.inr rfl)))

theorem couts_spec (fr : Fr) : ∀ (fo : List Ob) (used : List Nat), (couts fr used fo).length = fo.length ∧ ∃ τ : Nat → Option Nat, (∀ i h, τ i = some h → h ∉ used) ∧ (∀ i j h, τ i = some h → τ j = some h → i = j) ∧
    ∀ (i : Nat) (o' : Ob), (couts fr used fo)[i]? = some o' → ∃ o, fo[i]? = some o ∧ o'.ty = o.ty ∧ o'.cs.length = o.cs.length ∧ ∀ (j : Nat) (y : C), o'.cs[j]? = some y → ∃ x, o.cs[j]? = some x ∧ CoutCell fr (τ i) x y
  | [], used => ⟨rfl, fun _ => none, by simp, by simp, by simp [couts]⟩
  | o :: fo, used => by
    obtain ⟨h1, m, _, h3, h4, h5⟩ := cout_spec fr o.cs true used
    obtain ⟨k1, τ, k2, k3, k4⟩ := couts_spec fr fo (cout fr true used o.cs).2
    have hsub : ∀ h, h ∉ (cout fr true used o.cs).2 → h ∉ used := by
      intro h hh
      cases hm : m with
      | none => rw [h3 hm] at hh; exact hh
      | some h' => rw [(h4 h' hm).2] at hh; exact fun k => hh (by simp [k])
    refine ⟨by simp [couts, k1], fun i => match i with | 0 => m | i + 1 => τ i, fun i h hi => ?_, fun i j h hi hj => ?_, fun i o' hi => ?_⟩
    · cases i with
      | zero => exact (h4 h hi).1
      | succ i => exact hsub h (k2 i h hi)
    · cases i with
      | zero =>
        cases j with
        | zero => rfl
        | succ j =>
          have := k2 j h hj
          rw [(h4 h hi).2] at this
          exact absurd (by simp) this
      | succ i =>
        cases j with
        | zero =>
          have := k2 i h hi
          rw [(h4 h hj).2] at this
          exact absurd (by simp) this
        | succ j => rw [k3 i j h hi hj]
    · cases i with
      | zero =>
        simp only [couts, List.getElem?_cons_zero, Option.some.injEq] at hi
        subst hi
        exact ⟨o, rfl, rfl, h1, h5⟩
      | succ i => simpa using k4 i o' (by simpa [couts] using hi)

open Classical in
/-- What the caller is told. -/
noncomputable def fnOut (c : Cx) (fr : Fr) (τ : Nat → Option Nat) (adh : Option Nat) (ex : Nat) : Cx where
  w := c.w
  gen := fun _ => 0
  nfo := fr.fo.length + ex
  gh := {
    β := fun i => match τ i with | some h => c.gh.β h | none => 0
    φ := fun i => if i < fr.fo.length then c.gh.φ i else match adh with | some h => c.gh.β h | none => 0
    G := fun b => if ∃ h o, adh = some h ∧ fr.bx[h]? = some o ∧ o.cs ≠ [] ∧ b = c.gh.β h then 0
      else if ∃ h o, fr.bx[h]? = some o ∧ o.cs ≠ [] ∧ b = c.gh.β h then (match c.w.heap[b]? with | some (.cells arr _ _) => arr.size | _ => 0) else c.gh.G b
    ow := fun b => if ∃ h o, adh = some h ∧ fr.bx[h]? = some o ∧ o.cs ≠ [] ∧ b = c.gh.β h then .fo fr.fo.length
      else match c.gh.ow b with
        | .fo i => .fo i
        | .no => .no
        | .home h => if ht : ∃ j, τ j = some h ∧ 0 < c.gh.G b then .home ht.choose else .no }

section
variable {e : Ent} {c : Cx} {fr : Fr} {tmps : Array Value} {τ : Nat → Option Nat} {adh : Option Nat} {ex : Nat}

/-- A block of which cells may be looked at is no variable's. -/
theorem pos_noBox (R : RelFr e c fr tmps) {b : Nat} (hG : 0 < c.gh.G b) : ¬ ∃ h o, fr.bx[h]? = some o ∧ o.cs ≠ [] ∧ b = c.gh.β h := by
  rintro ⟨h, o, h1, h2, rfl⟩
  obtain ⟨_, _, _, _, _, k4, _⟩ := R.bxs h o h1 h2
  omega

theorem noBox_ad {b : Nat} (h : ¬ ∃ h o, fr.bx[h]? = some o ∧ o.cs ≠ [] ∧ b = c.gh.β h) : ¬ ∃ h o, adh = some h ∧ fr.bx[h]? = some o ∧ o.cs ≠ [] ∧ b = c.gh.β h := by
  rintro ⟨h', o, _, h1, h2, h3⟩
  exact h ⟨h', o, h1, h2, h3⟩

theorem fnOut_G {b : Nat} (h : ¬ ∃ h o, fr.bx[h]? = some o ∧ o.cs ≠ [] ∧ b = c.gh.β h) : (fnOut c fr τ adh ex).gh.G b = c.gh.G b := by
  simp only [fnOut]
  rw [if_neg (noBox_ad h), if_neg h]

theorem fnOut_rd (R : RelFr e c fr tmps) : RdLe c.w c.gh.G (fnOut c fr τ adh ex).w (fnOut c fr τ adh ex).gh.G := by
  intro b o v h1 h2
  rw [fnOut_G (pos_noBox R (b := b) (by omega))]
  exact ⟨h1, h2⟩

theorem fnOut_ow {b : Nat} (h : ¬ ∃ h o, fr.bx[h]? = some o ∧ o.cs ≠ [] ∧ b = c.gh.β h) (how : ∀ h', c.gh.ow b ≠ .home h') : (fnOut c fr τ adh ex).gh.ow b = c.gh.ow b := by
  simp only [fnOut]
  rw [if_neg (noBox_ad h)]
  cases hb : c.gh.ow b with
  | no => rfl
  | fo i => rfl
  | home h' => exact absurd hb (how h')

theorem chunk_take (sz : Nat) : ∀ (n : Nat) (l : List V), chunk sz n l = chunk sz n (l.take (n * sz))
  | 0, l => rfl
  | n + 1, l => by
    simp only [chunk]
    rw [chunk_take sz n (l.drop sz), chunk_take sz n ((l.take ((n + 1) * sz)).drop sz)]
    have e1 : (l.take ((n + 1) * sz)).take sz = l.take sz := by rw [List.take_take, Nat.min_eq_left (by rw [Nat.add_mul]; omega)]
    have e2 : ((l.take ((n + 1) * sz)).drop sz).take (n * sz) = (l.drop sz).take (n * sz) := by
      rw [List.drop_take, List.take_take, show (n + 1) * sz - sz = n * sz by rw [Nat.add_mul]; omega, Nat.min_self]
    rw [e1, e2]

/-- What a variable of the frame's own holds may be looked at from now on. -/
theorem fnOut_row (R : RelFr e c fr tmps) {h : Nat} {o : Ob} (ho : fr.bx[h]? = some o) (hne : o.cs ≠ []) (hno : adh ≠ some h) {off : Nat} {xs : List V} (hx : toVs (o.cs.drop off) = some xs) : RelRow (fnOut c fr τ adh ex).w (fnOut c fr τ adh ex).gh.G (c.gh.β h) off xs := by
  obtain ⟨arr, ty, k1, k2, k3, k4, k5⟩ := R.bxs h o ho hne
  have hG : (fnOut c fr τ adh ex).gh.G (c.gh.β h) = arr.size := by
    simp only [fnOut]
    rw [if_neg, if_pos ⟨h, o, ho, hne, rfl⟩, k1]
    rintro ⟨h', o', q1, q2, q3, q4⟩
    have := (R.bxs h' o' q2 q3)
    obtain ⟨_, _, _, _, _, _, l5⟩ := this
    rw [← q4, k5] at l5
    cases l5
    exact hno q1
  refine RelRow.mk fun i y hy => ?_
  obtain ⟨x, x1, x2⟩ := toVs_at hx hy
  rw [List.getElem?_drop] at x1
  obtain ⟨v, v1, v2⟩ := k3 _ x x1
  refine ⟨v, by rw [hG]; exact (Array.getElem?_eq_some_iff.1 v1).1, ?_, RelV.mono (fnOut_rd R) y v (toV_rel v2 x2)⟩
  rw [show (fnOut c fr τ adh ex).w = c.w from rfl, cell_of_heap k1]
  exact v1

theorem fo_le (R : RelFr e c fr tmps) {i : Nat} (h : i < c.nfo) : i < fr.fo.length := by rw [← R.nfo]; exact h

theorem outC_rel (R : RelFr e c fr tmps) (hno : adh = none) {x y : C} {v : Value} (h : RelC c x v) (hy : outC fr x = some y) : RelC (fnOut c fr τ adh ex) y v := by
  subst hno
  unfold outC at hy
  split at hy
  · simp only [Option.some.injEq] at hy; subst hy; simp only [RelC] at h ⊢; exact RelV.mono (fnOut_rd R) _ v h
  · simp only [Option.some.injEq] at hy
    subst hy
    simp only [RelC, RelV] at h ⊢
    obtain ⟨A, rfl⟩ := h
    exact ⟨A, 0, 0, 0, rfl, rfl, Nat.le_refl _, .inl trivial⟩
  · simp only [Option.some.injEq] at hy; subst hy; simp only [RelC] at h ⊢; exact RelV.mono (fnOut_rd R) _ v h.1
  · rename_i i off
    simp only [Option.some.injEq] at hy
    subst hy
    simp only [RelC] at h ⊢
    obtain ⟨h1, b, h2, h3⟩ := h
    have hi := fo_le R h1
    refine ⟨by simp only [Key.le, fnOut]; omega, b, h2, fun _ => ?_⟩
    rw [h3 trivial]
    simp only [Key.blk, fnOut, if_pos hi]
  · rename_i i sz off len
    simp only [Option.some.injEq] at hy
    subst hy
    simp only [RelC] at h ⊢
    obtain ⟨h1, A, cap, h2, h3, h4⟩ := h
    have hi := fo_le R h1
    refine ⟨by simp only [Key.le, fnOut]; omega, A, cap, h2, h3, fun hp => ?_⟩
    obtain ⟨b, arr, ty, fz, s1, s2, s3, s4⟩ := h4 hp
    refine ⟨b, arr, ty, fz, s1, s2, s3, fun _ => ?_⟩
    rw [s4 trivial]
    simp only [Key.blk, fnOut, if_pos hi]
  · rename_i h' g off
    split at hy
    · rename_i o ho
      split at hy
      · rename_i hg
        cases hx : toVs (o.cs.drop off) with
        | none => simp [hx] at hy
        | some xs =>
          simp only [hx, Option.map_some, Option.some.injEq] at hy
          subst hy
          simp only [RelC] at h
          obtain ⟨_, b, hv, hb⟩ := h
          have hbb := hb (by simp only [Key.ok]; rw [R.gen, Fr.ob_loc ho hg])
          simp only [Key.blk] at hbb
          subst hbb
          simp only [RelC, RelV]
          refine ⟨_, _, hv, ?_⟩
          by_cases hne : o.cs = []
          · have : xs = [] := by
              have := toVs_len hx
              rw [hne] at this
              simpa using this
            subst this
            simp [RelRow]
          · exact fnOut_row R ho hne (by simp) hx
      · cases hy
    · cases hy
  · rename_i h' g sz off len
    split at hy
    · rename_i o ho
      split at hy
      · rename_i hg
        obtain ⟨hg, hfit⟩ := hg
        cases hx : toVs (o.cs.drop off) with
        | none => simp [hx] at hy
        | some xs =>
          simp only [hx, Option.map_some, Option.some.injEq] at hy
          subst hy
          have hxl := toVs_len hx
          rw [List.length_drop] at hxl
          obtain ⟨c1, c2, c3⟩ := chunk_spec sz len (xs.take (len * sz)) (by rw [List.length_take]; omega)
          rw [← chunk_take] at c1 c2 c3
          simp only [RelC] at h
          obtain ⟨_, A, cap, hv, hlc, hb⟩ := h
          simp only [RelC, RelV]
          refine ⟨A, len, cap, sz, hv, c2.symm, hlc, ?_⟩
          by_cases hl : len = 0
          · left
            rw [← List.length_eq_zero_iff, c2]; exact hl
          · obtain ⟨b, arr, ty, fz, s1, s2, s3, s4⟩ := hb (by omega)
            have hbb := s4 (by simp only [Key.ok]; rw [R.gen, Fr.ob_loc ho hg])
            simp only [Key.blk] at hbb
            subst hbb
            refine .inr ⟨_, off, s1, RelRows.mk c3 ?_⟩
            rw [c1]
            by_cases hne : o.cs = []
            · have : xs = [] := by
                rw [hne] at hxl
                simpa using hxl
              subst this
              simp [RelRow]
            · exact (fnOut_row R ho hne (by simp) hx).take
      · cases hy
    · cases hy
  · cases hy

theorem cout_rel (R : RelFr e c fr tmps) (hinj : ∀ i j h, τ i = some h → τ j = some h → i = j) {i : Nat} {x y : C} {v : Value} (h : RelC c x v) (hc : CoutCell fr (τ i) x y) : ∀ y', (match y with | .own ty es => y' = C.lin i 0 ty es | _ => y' = y) → RelC (fnOut c fr τ adh ex) y' v := by
  intro y' hy'
  rcases hc with ⟨h', g, ty, es, o, hm, rfl, rfl, ho, hg⟩ | ⟨h', g, ty, es, rfl, rfl⟩ | ⟨rfl, hc⟩ | rfl
  · simp only at hy'
    subst hy'
    simp only [RelC] at h ⊢
    obtain ⟨h1, h2, h3⟩ := h
    refine ⟨RelV.mono (fnOut_rd R) _ v h1, Nat.le_refl _, fun _ => ?_⟩
    obtain ⟨o2, len, cap, arr, fz, sz, e1, e2, e3, e4, e5, e6, e7, e8, e9, e10, e11⟩ := h3 (by rw [R.gen, Fr.ob_loc ho hg])
    have hpos : 0 < c.gh.G (c.gh.β h') := by
      rw [e7]
      have : 0 < es.length := List.length_pos_iff.2 e2
      have := Nat.mul_pos (show 0 < len by omega) e4
      omega
    have hnb := pos_noBox R hpos
    have hβ : (fnOut c fr τ adh ex).gh.β i = c.gh.β h' := by simp only [fnOut, hm]
    refine ⟨o2, len, cap, arr, fz, sz, by rw [hβ]; exact e1, e2, e3, e4, e5, e6, by rw [hβ, fnOut_G hnb]; exact e7, by rw [hβ]; exact e8, e9, e10, ?_⟩
    rw [hβ]
    simp only [fnOut]
    rw [if_neg (noBox_ad hnb), e11]
    simp only
    have hex : ∃ j, τ j = some h' ∧ 0 < c.gh.G (c.gh.β h') := ⟨i, hm, hpos⟩
    rw [dif_pos hex]
    congr 1
    exact hinj _ _ _ hex.choose_spec.1 hm
  · simp only at hy'
    subst hy'
    simp only [RelC] at h ⊢
    exact RelV.mono (fnOut_rd R) _ v h.1
  · rcases hc with ⟨z, rfl⟩ | rfl | ⟨i', off, rfl⟩ | ⟨i', sz, off, len, rfl⟩
    · simp only at hy'; subst hy'; simp only [RelC] at h ⊢; exact RelV.mono (fnOut_rd R) _ v h
    · simp only at hy'; subst hy'; simp only [RelC] at h ⊢; exact h
    · simp only at hy'
      subst hy'
      simp only [RelC] at h ⊢
      obtain ⟨h1, b, h2, h3⟩ := h
      have hi := fo_le R h1
      refine ⟨by simp only [Key.le, fnOut]; omega, b, h2, fun _ => ?_⟩
      rw [h3 trivial]
      simp only [Key.blk, fnOut, if_pos hi]
    · simp only at hy'
      subst hy'
      simp only [RelC] at h ⊢
      obtain ⟨h1, A, cap, h2, h3, h4⟩ := h
      have hi := fo_le R h1
      refine ⟨by simp only [Key.le, fnOut]; omega, A, cap, h2, h3, fun hp => ?_⟩
      obtain ⟨b, arr, ty, fz, s1, s2, s3, s4⟩ := h4 hp
      refine ⟨b, arr, ty, fz, s1, s2, s3, fun _ => ?_⟩
      rw [s4 trivial]
      simp only [Key.blk, fnOut, if_pos hi]
  · simp only at hy'
    subst hy'
    simp only [RelC]
    exact h.flat

theorem enterO_at {i : Nat} : ∀ {xs : List C} {j : Nat} {y' : C}, (enterO i xs)[j]? = some y' → ∃ y, xs[j]? = some y ∧ (match y with | .own ty es => y' = C.lin i 0 ty es | _ => y' = y)
  | [], j, y', h => by simp [enterO] at h
  | x :: xs, j, y', h => by
    cases j with
    | zero =>
      refine ⟨x, rfl, ?_⟩
      cases x <;> (simp only [enterO, List.getElem?_cons_zero, Option.some.injEq] at h; exact h.symm)
    | succ j =>
      have h' : (enterO i xs)[j]? = some y' := by cases x <;> simpa [enterO] using h
      obtain ⟨y, y1, y2⟩ := enterO_at h'
      exact ⟨y, by simpa using y1, y2⟩

/-- The variables that were handed in, as they go back. -/
theorem fn_exit {e0 : Ent} (he : e0.w = e.w ∧ e0.G = e.G ∧ ∀ b, e0.ow b = .no ↔ e.ow b = .no) (R : RelFr e c fr tmps) (hinj : ∀ i j h, τ i = some h → τ j = some h → i = j) {fo' : List Ob} (hlen : fo'.length = fr.fo.length + ex)
    (hfo : ∀ (i : Nat) (o' : Ob), i < fr.fo.length → fo'[i]? = some o' → ∃ o, fr.fo[i]? = some o ∧ o'.ty = o.ty ∧ o'.cs.length = o.cs.length ∧ ∀ (j : Nat) (y : C), o'.cs[j]? = some y → ∃ x, o.cs[j]? = some x ∧ CoutCell fr (τ i) x y)
    (hex : ∀ o', fo'[fr.fo.length]? = some o' → o'.cs ≠ [] → ∃ h o xs, adh = some h ∧ fr.bx[h]? = some o ∧ toVs o.cs = some xs ∧ o' = ⟨0, 0, xs.map C.v⟩) (hex1 : ex ≤ 1) : RelFr e0 (fnOut c fr τ adh ex) (HandF fo') #[] where
  gen := by rw [HandF_gen]; rfl
  nfo := by simp only [HandF, enterF_len, fnOut]; exact hlen.symm
  tsz := rfl
  tms := fun t x h => by simp [HandF] at h
  bxs := fun h o h1 h2 => absurd (HandF_bx h1) h2
  fos := fun i o h1 h2 => by
    obtain ⟨q, q1, rfl⟩ := HandF_fo h1
    have hqne : q.cs ≠ [] := by
      intro k0
      refine h2 (List.length_eq_zero_iff.1 ?_)
      simp only [enterO_len, k0, List.length_nil]
    rcases Nat.lt_or_ge i fr.fo.length with hlt | hge
    · obtain ⟨o, o1, o2, o3, o4⟩ := hfo i q hlt q1
      have hone : o.cs ≠ [] := by
        intro k0
        rw [k0] at o3
        exact hqne (List.length_eq_zero_iff.1 (by simpa using o3))
      obtain ⟨arr, ty, k1, k2, k3, k4, k5⟩ := R.fos i o o1 hone
      have hnb : ¬ ∃ h o, fr.bx[h]? = some o ∧ o.cs ≠ [] ∧ c.gh.φ i = c.gh.β h := by
        rintro ⟨h, o', p1, p2, p3⟩
        obtain ⟨_, _, _, _, _, _, l5⟩ := R.bxs h o' p1 p2
        rw [← p3, k5] at l5
        cases l5
      have hφ : (fnOut c fr τ adh ex).gh.φ i = c.gh.φ i := by simp only [fnOut, if_pos hlt]
      refine ⟨arr, ty, by rw [hφ]; exact k1, fun hty => ?_, fun j y hy => ?_, by rw [hφ, fnOut_G hnb]; exact k4, by rw [hφ, fnOut_ow hnb (by rw [k5]; simp), k5]⟩
      · simp only [enterO_len] at hty ⊢
        rw [o2] at hty ⊢
        rw [o3]
        exact k2 hty
      · obtain ⟨y0, y1, y2⟩ := enterO_at hy
        obtain ⟨x, x1, x2⟩ := o4 j y0 y1
        obtain ⟨v, v1, v2⟩ := k3 j x x1
        exact ⟨v, v1, cout_rel R hinj v2 x2 y y2⟩
    · have hi : i = fr.fo.length := by
        have := (List.getElem?_eq_some_iff.1 q1).1
        omega
      subst hi
      obtain ⟨h, o, xs, a1, a2, a3, rfl⟩ := hex q q1 hqne
      have hone : o.cs ≠ [] := by
        intro k0
        have := toVs_len a3
        rw [k0] at this
        simp only [List.length_nil, List.length_eq_zero_iff] at this
        subst this
        exact hqne rfl
      obtain ⟨arr, ty, k1, k2, k3, k4, k5⟩ := R.bxs h o a2 hone
      have hφ : (fnOut c fr τ adh ex).gh.φ fr.fo.length = c.gh.β h := by simp only [fnOut, Nat.lt_irrefl, if_false, a1]
      have hcond : ∃ h' o, adh = some h' ∧ fr.bx[h']? = some o ∧ o.cs ≠ [] ∧ c.gh.β h = c.gh.β h' := ⟨h, o, a1, a2, hone, rfl⟩
      refine ⟨arr, ty, by rw [hφ]; exact k1, fun hty => absurd rfl hty, fun j y hy => ?_, by rw [hφ]; simp only [fnOut]; rw [if_pos hcond], by rw [hφ]; simp only [fnOut]; rw [if_pos hcond]⟩
      obtain ⟨y0, y1, y2⟩ := enterO_at hy
      rw [List.getElem?_map] at y1
      cases hz : xs[j]? with
      | none => simp [hz] at y1
      | some z =>
        simp only [hz, Option.map_some, Option.some.injEq] at y1
        subst y1
        simp only at y2
        subst y2
        obtain ⟨x, x1, x2⟩ := toVs_at a3 hz
        obtain ⟨v, v1, v2⟩ := k3 j x x1
        exact ⟨v, v1, by simp only [RelC]; exact RelV.mono (fnOut_rd R) z v (toV_rel v2 x2)⟩
  old := fun b h1 h2 => by rw [he.1] at h1 ⊢; exact R.old b h1 ((he.2.2 b).1 h2)
  ows := fun b h1 h2 => by
    rw [he.1] at h1
    have := R.ows b h1 ((he.2.2 b).1 h2)
    have hnb : ¬ ∃ h o, fr.bx[h]? = some o ∧ o.cs ≠ [] ∧ b = c.gh.β h := by
      rintro ⟨h, o', p1, p2, rfl⟩
      obtain ⟨_, _, _, _, _, _, l5⟩ := R.bxs h o' p1 p2
      rw [this.1] at l5
      cases l5
    rw [fnOut_ow hnb (by rw [this.1]; simp), fnOut_G hnb, he.2.1]
    exact this
  size := by rw [he.1]; exact R.size
  os := by rw [he.1]; exact R.os
  tape := by rw [he.1]; exact R.tape
  output := by rw [he.1]; exact R.output

theorem outL_rel {f : C → Option C} {c' : Cx} (hf : ∀ x y v, RelC c x v → f x = some y → RelC c' y v) : ∀ {xs ys : List C} {vs : List Value}, RelCs c xs vs → outL f xs = some ys → RelCs c' ys vs
  | [], ys, [], _, h => by simp only [outL, Option.some.injEq] at h; subst h; simp [RelCs]
  | x :: xs, ys, v :: vs, hr, h => by
    simp only [outL] at h
    split at h
    · rename_i y zs h1 h2
      simp only [Option.some.injEq] at h
      subst h
      simp only [RelCs] at hr ⊢
      exact ⟨hf x y v hr.1 h1, outL_rel hf hr.2 h2⟩
    · cases h
  | [], _, _ :: _, h, _ => by simp [RelCs] at h
  | _ :: _, _, [], h, _ => by simp [RelCs] at h

theorem outT_rel {f : C → Option C} {c' : Cx} (hd : f .dead = none) (hf : ∀ x y v, RelC c x v → f x = some y → RelC c' y v) {x y : T} {v : Value} (hr : RelT c x v) (h : outT f x = some y) : RelT c' y v := by
  cases x with
  | one x =>
    simp only [outT] at h
    cases hy : f x with
    | none => simp [hy] at h
    | some z =>
      simp only [hy, Option.map_some, Option.some.injEq] at h
      subst h
      have hx : x ≠ .dead := by rintro rfl; rw [hd] at hy; cases hy
      exact RelT.one (hf x z v (hr.one_live hx) hy)
  | agg cs =>
    simp only [outT] at h
    cases hy : outL f cs with
    | none => simp [hy] at h
    | some z =>
      simp only [hy, Option.map_some, Option.some.injEq] at h
      subst h
      simp only [RelT] at hr ⊢
      obtain ⟨arr, rfl, r⟩ := hr
      exact ⟨arr, rfl, outL_rel hf r hy⟩
  | tup ts => simp [outT] at h

theorem outTs_rel {f : C → Option C} {c' : Cx} (hd : f .dead = none) (hf : ∀ x y v, RelC c x v → f x = some y → RelC c' y v) : ∀ {xs ys : List T} {vs : List Value}, RelTs c xs vs → outTs f xs = some ys → RelTs c' ys vs
  | [], ys, [], _, h => by simp only [outTs, Option.some.injEq] at h; subst h; simp [RelTs]
  | x :: xs, ys, v :: vs, hr, h => by
    simp only [outTs] at h
    split at h
    · rename_i y zs h1 h2
      simp only [Option.some.injEq] at h
      subst h
      simp only [RelTs] at hr ⊢
      exact ⟨outT_rel hd hf hr.1 h1, outTs_rel hd hf hr.2 h2⟩
    · cases h
  | [], _, _ :: _, h, _ => by simp [RelTs] at h
  | _ :: _, _, [], h, _ => by simp [RelTs] at h

theorem pack_rel {c' : Cx} {ts : List T} {vs : List Value} (h : RelTs c' ts vs) : RelT c' (pack ts) (resV vs) := by
  match ts, vs, h with
  | [], [], h => simp [pack, resV, RelT, RelTs]
  | [t], [v], h => simp only [RelTs] at h; exact h.1
  | t :: t' :: ts, v :: v' :: vs, h => simp only [pack, resV, RelT]; exact ⟨_, rfl, h⟩
  | [], _ :: _, h => simp [RelTs] at h
  | [_], [], h => simp [RelTs] at h
  | [_], _ :: _ :: _, h => simp [RelTs] at h
  | _ :: _ :: _, [], h => simp [RelTs] at h
  | _ :: _ :: _, [_], h => simp [RelTs] at h

theorem outA_rel (R : RelFr e c fr tmps) {h g : Nat} {o : Ob} (ho : fr.bx[h]? = some o) (hg : o.g = g) {x y : C} {v : Value} (hr : RelC c x v) (hy : outA fr.fo.length h g x = some y) : RelC (fnOut c fr τ (some h) 1) y v := by
  unfold outA at hy
  split at hy
  · simp only [Option.some.injEq] at hy; subst hy; simp only [RelC] at hr ⊢; exact RelV.mono (fnOut_rd R) _ v hr
  · simp only [Option.some.injEq] at hy
    subst hy
    simp only [RelC, RelV] at hr ⊢
    obtain ⟨A, rfl⟩ := hr
    exact ⟨A, 0, 0, 0, rfl, rfl, Nat.le_refl _, .inl trivial⟩
  · simp only [Option.some.injEq] at hy; subst hy; simp only [RelC] at hr ⊢; exact RelV.mono (fnOut_rd R) _ v hr.1
  · rename_i i off
    simp only [Option.some.injEq] at hy
    subst hy
    simp only [RelC] at hr ⊢
    obtain ⟨h1, b, h2, h3⟩ := hr
    have hi := fo_le R h1
    refine ⟨by simp only [Key.le, fnOut]; omega, b, h2, fun _ => ?_⟩
    rw [h3 trivial]
    simp only [Key.blk, fnOut, if_pos hi]
  · rename_i i sz off len
    simp only [Option.some.injEq] at hy
    subst hy
    simp only [RelC] at hr ⊢
    obtain ⟨h1, A, cap, h2, h3, h4⟩ := hr
    have hi := fo_le R h1
    refine ⟨by simp only [Key.le, fnOut]; omega, A, cap, h2, h3, fun hp => ?_⟩
    obtain ⟨b, arr, ty, fz, s1, s2, s3, s4⟩ := h4 hp
    refine ⟨b, arr, ty, fz, s1, s2, s3, fun _ => ?_⟩
    rw [s4 trivial]
    simp only [Key.blk, fnOut, if_pos hi]
  · rename_i h' g' sz off len
    split at hy
    · rename_i hk
      obtain ⟨rfl, rfl⟩ := hk
      simp only [Option.some.injEq] at hy
      subst hy
      simp only [RelC] at hr ⊢
      obtain ⟨_, A, cap, h2, h3, h4⟩ := hr
      refine ⟨by simp only [Key.le, fnOut]; omega, A, cap, h2, h3, fun hp => ?_⟩
      obtain ⟨b, arr, ty, fz, s1, s2, s3, s4⟩ := h4 hp
      refine ⟨b, arr, ty, fz, s1, s2, s3, fun _ => ?_⟩
      rw [s4 (by simp only [Key.ok]; rw [R.gen, Fr.ob_loc ho hg])]
      simp only [Key.blk, fnOut, Nat.lt_irrefl, if_false]
    · cases hy
  · cases hy

/-! ### Functions -/

structure Laid (P : Program) (pol : Nat → Pol) (E : Env) : Prop where
  ext : ExtOk P E.ext
  mixed : P.follows .mixedOrders = true
  fns : ∀ f d, E.fns f = some d → ∃ fn body, P.funcs[f]? = some fn ∧ fn.body = some body ∧ (fn.name == "runtime.NumGoroutine") = false ∧ cFn P (pol f) fn = some d
  prim : ∀ f p, E.prim f = some p → Good P (fun ad g args fo => if g = f then p ad args fo else none)

theorem fn_out {e0 : Ent} {c0 : Cx} (he : e0 = ⟨c0.w, c0.gh.G, c0.gh.ow⟩) {ad : Bool} {rs : List T} {vs : List Value} {r : T} {fo' : List Ob} (he' : e = ⟨c0.w, c0.gh.G, (c0.into fr.n).gh.ow⟩) (R : RelFr e c fr tmps) (Hle : CxLe (c0.into fr.n) c) (hn : c0.nfo = fr.fo.length) (hrs : RelTs c rs vs) (hf : finish ad fr rs = some (r, fo')) :
    ∃ c', c'.w = c.w ∧ OutLe c0 c' ∧ RelFr e0 c' (HandF fo') #[] ∧ RelT c' r (resV vs) ∧ fo'.length = c0.nfo + (if ad then 1 else 0) := by
  obtain ⟨cl, τ, _, hinj, hsp⟩ := couts_spec fr fr.fo []
  have hent : e0.w = e.w ∧ e0.G = e.G ∧ ∀ b, e0.ow b = .no ↔ e.ow b = .no := by
    subst he; subst he'
    refine ⟨rfl, rfl, fun b => ?_⟩
    simp only [Cx.into]
    cases c0.gh.ow b <;> simp
  have hout : ∀ adh ex, OutLe c0 (fnOut c fr τ adh ex) := fun adh ex => {
    rd := Hle.rd.trans (fnOut_rd R)
    size := Hle.size
    fo := fun i hi => by
      have hlt : i < fr.fo.length := by omega
      simp only [fnOut, if_pos hlt]
      exact Hle.fo i hi
    nfo := by simp only [fnOut]; omega }
  unfold finish at hf
  split at hf
  · rename_i had
    subst had
    split at hf
    · rename_i h g _
      split at hf
      · rename_i o ho
        split at hf
        · rename_i hg
          split at hf
          · rename_i xs rs' hxs hrs'
            simp only [Option.some.injEq, Prod.mk.injEq] at hf
            obtain ⟨rfl, rfl⟩ := hf
            refine ⟨fnOut c fr τ (some h) 1, rfl, hout _ _, fn_exit hent R hinj (by simp [cl]) (fun i o' hi ho' => ?_) (fun o' ho' hne => ?_) (Nat.le_refl _), pack_rel (outTs_rel (by rfl) (fun x y v hx hy => outA_rel R ho hg hx hy) hrs hrs'), by simp [cl, hn]⟩
            · rw [List.getElem?_append_left (by omega)] at ho'
              exact hsp i o' ho'
            · rw [List.getElem?_append_right (by omega), cl, Nat.sub_self] at ho'
              simp only [List.getElem?_cons_zero, Option.some.injEq] at ho'
              subst ho'
              exact ⟨h, o, xs, rfl, ho, hxs, rfl⟩
          · cases hf
        · cases hf
      · cases hf
    · cases hrs' : outTs (outC fr) rs with
      | none => simp [hrs'] at hf
      | some rs' =>
        simp only [hrs', Option.map_some, Option.some.injEq, Prod.mk.injEq] at hf
        obtain ⟨rfl, rfl⟩ := hf
        refine ⟨fnOut c fr τ none 1, rfl, hout _ _, fn_exit hent R hinj (by simp [cl]) (fun i o' hi ho' => ?_) (fun o' ho' hne => ?_) (Nat.le_refl _), pack_rel (outTs_rel (by rfl) (fun x y v hx hy => outC_rel R rfl hx hy) hrs hrs'), by simp [cl, hn]⟩
        · rw [List.getElem?_append_left (by omega)] at ho'
          exact hsp i o' ho'
        · rw [List.getElem?_append_right (by omega), cl, Nat.sub_self] at ho'
          simp only [List.getElem?_cons_zero, Option.some.injEq] at ho'
          subst ho'
          exact absurd rfl hne
    · cases hf
  · rename_i had
    cases hrs' : outTs (outC fr) rs with
    | none => simp [hrs'] at hf
    | some rs' =>
      simp only [hrs', Option.map_some, Option.some.injEq, Prod.mk.injEq] at hf
      obtain ⟨rfl, rfl⟩ := hf
      refine ⟨fnOut c fr τ none 0, rfl, hout _ _, fn_exit hent R hinj (by simp [cl]) (fun i o' hi ho' => hsp i o' ho') (fun o' ho' hne => ?_) (by omega), pack_rel (outTs_rel (by rfl) (fun x y v hx hy => outC_rel R rfl hx hy) hrs hrs'), by rw [if_neg had]; simp [cl, hn]⟩
      rw [List.getElem?_eq_none (by omega)] at ho'
      cases ho'

theorem cFn_inv {pol : Pol} {fn : Func} {d : DFn} (h : cFn P pol fn = some d) : ∃ body, fn.body = some body ∧ d.ntmps = fn.ntmps ∧ cC P pol body = some d.body ∧ cRes P fn.results.toList = some d.res := by
  unfold cFn at h
  split at h
  · rename_i body hb
    split at h
    · rename_i b rs h1 h2
      simp only [Option.some.injEq] at h
      subst h
      exact ⟨body, hb, rfl, h1, h2⟩
    · cases h
  · cases h

theorem write_len {fr fr' : Fr} {w : W} (h : fr.write w = some fr') : fr'.fo.length = fr.fo.length := by
  cases w with
  | setb a q => obtain ⟨_, rfl⟩ := write_setb h; rfl
  | cells l off cs =>
    cases l <;>
    · simp only [Fr.write] at h
      split at h
      · split at h
        · simp only [Option.some.injEq] at h; subst h; simp
        · cases h
      · cases h

theorem writes_len : ∀ {ws : List W} {fr fr' : Fr}, fr.writes ws = some fr' → fr'.fo.length = fr.fo.length
  | [], fr, fr', h => by simp only [Fr.writes, Option.some.injEq] at h; rw [h]
  | w :: ws, fr, fr', h => by
    obtain ⟨m, m1, m2⟩ := writes_cons_iff.1 h
    rw [writes_len m2, write_len m1]

def Fr.alike (fr fr' : Fr) : Prop := fr'.n = fr.n ∧ fr'.fo.length = fr.fo.length

theorem evC_n {ext : Ext} {call : CallF} : ∀ (N : Nat) (dc : DCode) (fr : Fr) (ex : Ex) (fr' : Fr), evC ext call N dc fr = some (ex, fr') → fr.alike fr' := by
  have refl : ∀ fr : Fr, fr.alike fr := fun fr => ⟨rfl, rfl⟩
  have trans : ∀ {a b c : Fr}, a.alike b → b.alike c → a.alike c := fun h k => ⟨k.1.trans h.1, k.2.trans h.2⟩
  have hput : ∀ (fr : Fr) (d : Option Nat) (t : T), fr.alike (putT fr d t) := fun fr d t => by cases d <;> exact ⟨rfl, rfl⟩
  have hrun : ∀ (ops : List DOper) (fr fr' : Fr) (fs : List Foot), run ext call ops fr = some (fr', fs) → fr.alike fr' := by
    intro ops
    induction ops with
    | nil => intro fr fr' fs h; simp only [run, Option.some.injEq, Prod.mk.injEq] at h; rw [h.1]; exact refl _
    | cons o ops ih =>
      intro fr fr' fs h
      simp only [run] at h
      cases h1 : step ext call o fr with
      | none => simp [h1] at h
      | some q =>
        obtain ⟨f1, ls, ws⟩ := q
        simp only [h1] at h
        cases h2 : run ext call ops f1 with
        | none => simp [h2] at h
        | some q2 =>
          obtain ⟨f2, fs'⟩ := q2
          simp only [h2, Option.some.injEq, Prod.mk.injEq] at h
          obtain ⟨rfl, _⟩ := h
          refine trans ?_ (ih f1 f2 fs' h2)
          rcases step_some h1 with ⟨_, rfl, _⟩ | ⟨_, t, m, _, hw, rfl⟩
          · exact hput _ _ _
          · exact trans ⟨(writes_look hw).1, writes_len hw⟩ (hput _ _ _)
  intro N
  induction N with
  | zero => intro dc fr ex fr' h; simp [evC] at h
  | succ N ih =>
    intro dc fr ex fr' h
    cases dc with
    | skip => simp only [evC, Option.some.injEq, Prod.mk.injEq] at h; rw [h.2]; exact refl _
    | label l => simp only [evC, Option.some.injEq, Prod.mk.injEq] at h; rw [h.2]; exact refl _
    | exit l => simp only [evC, Option.some.injEq, Prod.mk.injEq] at h; rw [h.2]; exact refl _
    | goto l => simp only [evC, Option.some.injEq, Prod.mk.injEq] at h; rw [h.2]; exact refl _
    | ret => simp only [evC, Option.some.injEq, Prod.mk.injEq] at h; rw [h.2]; exact refl _
    | bad => simp [evC] at h
    | region ops bad =>
      simp only [evC] at h
      split at h
      · rename_i f fs hr
        split at h
        · simp only [Option.some.injEq, Prod.mk.injEq] at h
          rw [← h.2]
          exact hrun _ _ _ _ hr
        · cases h
      · cases h
    | seq a b =>
      simp only [evC] at h
      cases hb : evC ext call N a fr with
      | none => simp [hb] at h
      | some q =>
        obtain ⟨ex1, fr1⟩ := q
        have h1 := ih a fr ex1 fr1 hb
        cases ex1 <;> simp only [hb, Option.some.injEq, Prod.mk.injEq] at h
        · exact trans h1 (ih b fr1 ex fr' h)
        all_goals (rw [← h.2]; exact h1)
    | cond x a b =>
      simp only [evC] at h
      split at h
      · exact ih _ fr ex fr' h
      · cases h
    | block i a =>
      simp only [evC] at h
      cases hb : evC ext call N a fr with
      | none => simp [hb] at h
      | some q =>
        obtain ⟨ex1, fr1⟩ := q
        have h1 := ih a fr ex1 fr1 hb
        cases ex1 <;> simp only [hb] at h
        case exit j =>
          split at h
          · simp only [Option.some.injEq, Prod.mk.injEq] at h; rw [← h.2]; exact h1
          · simp only [Option.some.injEq, Prod.mk.injEq] at h; rw [← h.2]; exact h1
        all_goals (simp only [Option.some.injEq, Prod.mk.injEq] at h; rw [← h.2]; exact h1)
    | loop a =>
      simp only [evC] at h
      cases hb : evC ext call N a fr with
      | none => simp [hb] at h
      | some q =>
        obtain ⟨ex1, fr1⟩ := q
        have h1 := ih a fr ex1 fr1 hb
        cases ex1 <;> simp only [hb, Option.some.injEq, Prod.mk.injEq] at h
        · exact trans h1 (ih _ fr1 ex fr' h)
        all_goals (rw [← h.2]; exact h1)
    | scope a => simp only [evC] at h; exact ih _ fr ex fr' h
    | sc a b =>
      simp only [evC] at h
      cases hb : evC ext call N b fr with
      | none => simp [hb] at h
      | some q =>
        obtain ⟨ex1, fr1⟩ := q
        have h1 := ih b fr ex1 fr1 hb
        cases ex1 <;> simp only [hb] at h
        case goto l =>
          split at h
          · exact trans h1 (ih _ fr1 ex fr' h)
          · simp only [Option.some.injEq, Prod.mk.injEq] at h; rw [← h.2]; exact h1
        all_goals (simp only [Option.some.injEq, Prod.mk.injEq] at h; rw [← h.2]; exact h1)

theorem ev_good {pol : Nat → Pol} {E : Env} (L : Laid P pol E) : ∀ N, Good P (evF E N) := by
  intro N
  induction N with
  | zero => intro ad f args fo r fo' h; simp [evF] at h
  | succ N ih =>
    intro ad f args fo r fo' h hha hho
    simp only [evF] at h
    cases hp : E.prim f with
    | some p =>
      simp only [hp] at h
      exact L.prim f p hp ad f args fo r fo' (by simp [h]) hha hho
    | none =>
      simp only [hp] at h
      cases hfn : E.fns f with
      | none => simp [hfn] at h
      | some d =>
        simp only [hfn] at h
        obtain ⟨fn, body, f1, f2, f3, f4⟩ := L.fns f d hfn
        obtain ⟨body', g1, g2, g3, g4⟩ := cFn_inv f4
        rw [f2, Option.some.injEq] at g1
        subst g1
        refine ⟨⟨fn, f1, f3, by rw [f2]; rfl⟩, fun c vs R ha => ?_⟩
        cases hev : evC E.ext (evF E N) N d.body (enter d args fo) with
        | none => simp [hev] at h
        | some q =>
          obtain ⟨ex, fr⟩ := q
          have hex : (ex = .nrm ∨ ex = .ret) ∧ ∃ rs, getAll fr d.res = some rs ∧ finish ad fr rs = some (r, fo') := by
            rw [hev] at h
            cases ex with
            | nrm =>
              refine ⟨.inl rfl, ?_⟩
              simp only at h
              cases hg : getAll fr d.res with
              | none => simp [hg] at h
              | some rs => simp only [hg] at h; exact ⟨rs, rfl, h⟩
            | ret =>
              refine ⟨.inr rfl, ?_⟩
              simp only at h
              cases hg : getAll fr d.res with
              | none => simp [hg] at h
              | some rs => simp only [hg] at h; exact ⟨rs, rfl, h⟩
            | exit i => simp at h
            | goto l => simp at h
          obtain ⟨hex, rs, hga, hfin⟩ := hex
          have R0 := fn_entry d rfl R ha hha hho
          have hfrn : fr.n = d.ntmps := by rw [(evC_n _ _ _ _ _ hev).1]; rfl
          refine calls_of_wp f1 f2 ?_
          have hargs : (⟨vs⟩ ++ Array.replicate (fn.ntmps - (Array.mk vs).size) undef : Array Value) = ⟨vs⟩ ++ Array.replicate (d.ntmps - vs.length) undef := by rw [g2]; rfl
          rw [hargs]
          refine wp_mono ((code_sound (pol := pol f) ih L.ext L.mixed N d.body (enter d args fo) ex fr hev).1 body (c.into d.ntmps) ⟨⟨vs⟩ ++ Array.replicate (d.ntmps - vs.length) undef, []⟩ g3 R0) fun e' a' w' hen => ?_
          obtain ⟨rfl, c1, rfl, H1, R1, hd1⟩ := hen
          obtain ⟨us, u1, u2⟩ := results_rel (P := P) R1 g4 hga
          have hnfo : c.nfo = fr.fo.length := by
            rw [(evC_n _ _ _ _ _ hev).2]
            have h1 := R.nfo
            simp only [HandF, enterF_len] at h1
            simp only [enter, enterF_len, h1]
          obtain ⟨c', q1, q2, q3, q4, q5⟩ := fn_out (c0 := c) rfl (by rw [hfrn]) R1 (by rw [hfrn]; exact H1) hnfo u1 hfin
          have hpost : a'.defers = [] ∧ ∃ v, (results fn a'.tmps).run P c1.w = .ok v c1.w ∧ ∃ v' c', Ending.returned v = .returned v' ∧ c'.w = c1.w ∧ OutLe c c' ∧ RelFr ⟨c.w, c.gh.G, c.gh.ow⟩ c' (HandF fo') #[] ∧ RelT c' r v' ∧ fo'.length = fo.length + (if ad then 1 else 0) := by
            refine ⟨hd1, _, u2, _, c', rfl, q1, q2, q3, q4, ?_⟩
            rw [q5]
            have h1 := R.nfo
            simp only [HandF, enterF_len] at h1
            rw [h1]
          rcases hex with rfl | rfl
          · exact hpost
          · exact hpost

end
end Go.Dev

/- A call from outside. -/
namespace Go.Dev
open Go Go.RowKit

variable {P : Program}

/-- All that is there may be looked at. -/
def G0 (w : World) (b : Nat) : Nat := match w.heap[b]? with
  | some (.cells arr _ _) => arr.size
  | _ => 0

def c0 (w : World) : Cx := ⟨w, ⟨fun _ => 0, fun _ => 0, G0 w, fun _ => .no⟩, fun _ => 0, 0⟩

theorem entry0 (w : World) : RelFr ⟨w, G0 w, fun _ => .no⟩ (c0 w) (HandF []) #[] where
  gen := by rw [HandF_gen]; rfl
  nfo := rfl
  tsz := rfl
  tms := fun t x h => by simp [HandF] at h
  bxs := fun h o h1 h2 => absurd (HandF_bx h1) h2
  fos := fun i o h1 h2 => by simp [HandF, enterF] at h1
  old := fun _ _ _ => rfl
  ows := fun _ _ _ => ⟨rfl, rfl⟩
  size := Nat.le_refl _
  os := rfl
  tape := rfl
  output := rfl

/-- What the evaluator says of a call from outside. -/
theorem top {call : CallF} (G : Good P call) {f : Nat} {args : List T} {r : T} (h : call false f args [] = some (r, [])) (hh : handedTs args = true) {w : World} {vs : List Value} (ha : RelTs (c0 w) args vs) :
    Calls P f ⟨vs⟩ w fun en w' => ∃ v c', en = .returned v ∧ c'.w = w' ∧ RelT c' r v ∧ Below w.heap.size w w' := by
  obtain ⟨_, hc⟩ := G false f args [] r [] h hh rfl
  refine (hc (c0 w) vs (entry0 w) ha).mono fun en w' hen => ?_
  obtain ⟨v, c', rfl, rfl, _, R, hr, _⟩ := hen
  exact ⟨v, c', rfl, rfl, hr, R.os, R.tape, R.output, R.size, fun k hk => R.old k hk rfl⟩

theorem top_true {call : CallF} (G : Good P call) {f : Nat} {args : List T} (h : call false f args [] = some (tB true, [])) (hh : handedTs args = true) {w : World} {vs : List Value} (ha : RelTs (c0 w) args vs) :
    Calls P f ⟨vs⟩ w fun en w' => en = .returned (.bool true) ∧ Below w.heap.size w w' := by
  refine (top G h hh ha).mono fun en w' hen => ?_
  obtain ⟨v, c', rfl, _, hr, hb⟩ := hen
  have := hr.lit.1
  subst this
  exact ⟨rfl, hb⟩

/-- A row of cells as it lies. -/
theorem g0_row {w : World} {b : Nat} {arr : Array Value} {ty : TypeId} {fz : Nat × Nat} (h : w.heap[b]? = some (.cells arr ty fz)) {o : Nat} : ∀ {xs : List V} {vs : List Value}, RelVs w (G0 w) xs vs → (∀ (j : Nat) (v : Value), vs[j]? = some v → arr[o + j]? = some v) → RelRow w (G0 w) b o xs := by
  intro xs vs hr hv
  refine RelRow.mk fun i x hx => ?_
  obtain ⟨v, v1, v2⟩ := hr.at hx
  have := hv i v v1
  refine ⟨v, ?_, by rw [cell_of_heap h]; exact this, v2⟩
  simp only [G0, h]
  exact (Array.getElem?_eq_some_iff.1 this).1

end Go.Dev

/- More fuel, the same answer. -/
namespace Go.Dev
open Go

def CallLe (c c' : CallF) : Prop := ∀ ad f a fo r, c ad f a fo = some r → c' ad f a fo = some r

def Req.le (r r' : Req) : Prop := ∀ (fr : Fr) (x : T × List W × List Loc), fr.ask r = some x → fr.ask r' = some x

theorem Req.le_refl (r : Req) : r.le r := fun _ _ h => h

theorem Req.done_le {a a' : Ans} (h : ∀ x, a = some x → a' = some x) : (Req.done a).le (.done a') := by
  intro fr x hx
  cases a with
  | none => simp [Fr.ask] at hx
  | some q => rw [h q rfl]; exact hx

theorem Req.rd_le {ls : List Loc} {k k' : List Ob → Req} (h : ∀ obs, (k obs).le (k' obs)) : (Req.rd ls k).le (.rd ls k') := by
  intro fr x hx
  simp only [Fr.ask] at hx ⊢
  cases h1 : fr.looks ls with
  | none => simp [h1] at hx
  | some obs =>
    simp only [h1] at hx ⊢
    cases h2 : fr.ask (k obs) with
    | none => simp [h2] at hx
    | some q => rw [h obs fr q h2]; rw [h2] at hx; exact hx

section
variable {c c' : CallF} (H : CallLe c c')
include H

theorem callEnd_le (n f : Nat) (all : List T) (ks : List Key) (obs : List Ob) : ∀ x, callEnd c n f all ks obs = some x → callEnd c' n f all ks obs = some x := by
  intro x h
  unfold callEnd at h ⊢
  cases h1 : handIn n ks ks obs with
  | none => simp [h1] at h
  | some fo =>
    simp only [h1] at h ⊢
    cases h2 : c false f (all.map (trT ks)) fo with
    | none => simp [h2] at h
    | some q => rw [H _ _ _ _ _ h2]; rw [h2] at h; exact h

theorem callEndA_le (n d : Nat) (a : Ob) (f : Nat) (all : List T) (ks : List Key) (obs : List Ob) : ∀ x, callEndA c n d a f all ks obs = some x → callEndA c' n d a f all ks obs = some x := by
  intro x h
  unfold callEndA at h ⊢
  cases h1 : handIn n ks ks obs with
  | none => simp [h1] at h
  | some fo =>
    simp only [h1] at h ⊢
    cases h2 : c true f (all.map (trT ks)) fo with
    | none => simp [h2] at h
    | some q => rw [H _ _ _ _ _ h2]; rw [h2] at h; exact h

theorem gather_le {n : Nat} {k k' : List Key → List Ob → Ans} (hk : ∀ ks obs x, k ks obs = some x → k' ks obs = some x) : ∀ (r : Nat) (ks : List Key), (gather n ks k r).le (gather n ks k' r)
  | 0, ks => Req.le_refl _
  | r + 1, ks => by
    simp only [gather]
    refine Req.rd_le fun obs => ?_
    split
    · exact Req.done_le (hk ks obs)
    · exact gather_le hk r _

theorem callOp_le (ext : Ext) (n : Nat) (ad : Bool) (d : Nat) (f : T) (args : List T) : (callOp ext c n ad d f args).le (callOp ext c' n ad d f args) := by
  unfold callOp
  split
  · exact Req.le_refl _
  · split
    · exact Req.le_refl _
    · split
      · refine Req.rd_le fun obs => ?_
        split
        · exact gather_le H (fun ks obs x => callEndA_le H _ _ _ _ _ ks obs x) _ _
        · exact Req.le_refl _
      · dsimp only
        split
        · exact Req.done_le (callEnd_le H _ _ _ _ _)
        · exact gather_le H (fun ks obs x => callEnd_le H _ _ _ ks obs x) _ _

theorem act_le (ext : Ext) (n : Nat) (o : DOper) (get : Opd → T) : (act ext c n o get).le (act ext c' n o get) := by
  unfold act
  cases o.op with
  | call f args => exact callOp_le H ext n _ _ _ _
  | slice str _ _ _ _ _ => cases str <;> exact Req.le_refl _
  | len str _ => cases str <;> exact Req.le_refl _
  | _ => exact Req.le_refl _

theorem step_le (ext : Ext) (o : DOper) (fr : Fr) : ∀ x, step ext c o fr = some x → step ext c' o fr = some x := by
  intro x h
  unfold step at h ⊢
  cases hw : wants o fr with
  | none => simp [hw] at h
  | some b =>
    cases b with
    | false => simpa [hw] using h
    | true =>
      simp only [hw] at h ⊢
      cases ha : fr.ask (act ext c fr.n o fr.get) with
      | none => simp [ha] at h
      | some q => rw [act_le H ext fr.n o fr.get fr q ha]; rw [ha] at h; exact h

theorem run_le (ext : Ext) : ∀ (os : List DOper) (fr : Fr) (x : Fr × List (List Loc × List W)), run ext c os fr = some x → run ext c' os fr = some x
  | [], fr, x, h => h
  | o :: os, fr, x, h => by
    simp only [run] at h ⊢
    cases h1 : step ext c o fr with
    | none => simp [h1] at h
    | some q =>
      obtain ⟨f1, f⟩ := q
      rw [step_le H ext o fr _ h1]
      simp only [h1] at h ⊢
      cases h2 : run ext c os f1 with
      | none => simp [h2] at h
      | some q2 => rw [run_le ext os f1 _ h2]; rw [h2] at h; exact h

theorem evC_le (ext : Ext) : ∀ (N : Nat) (dc : DCode) (fr : Fr) (x : Ex × Fr), evC ext c N dc fr = some x → ∀ M, N ≤ M → evC ext c' M dc fr = some x := by
  intro N
  induction N with
  | zero => intro dc fr x h; simp [evC] at h
  | succ N ih =>
    intro dc fr x h M hM
    obtain ⟨M, rfl⟩ : ∃ m, M = m + 1 := ⟨M - 1, by omega⟩
    have hNM : N ≤ M := by omega
    cases dc with
    | skip => simpa [evC] using h
    | label l => simpa [evC] using h
    | exit l => simpa [evC] using h
    | goto l => simpa [evC] using h
    | ret => simpa [evC] using h
    | bad => simp [evC] at h
    | region ops bad =>
      simp only [evC] at h ⊢
      cases h1 : run ext c ops fr with
      | none => simp [h1] at h
      | some q => rw [run_le H ext ops fr _ h1]; rw [h1] at h; exact h
    | seq a b =>
      simp only [evC] at h ⊢
      cases h1 : evC ext c N a fr with
      | none => simp [h1] at h
      | some q =>
        obtain ⟨ex1, f1⟩ := q
        rw [ih a fr _ h1 M hNM]
        rw [h1] at h
        cases ex1 with
        | nrm => exact ih b f1 x h M hNM
        | _ => exact h
    | cond y a b =>
      simp only [evC] at h ⊢
      split at h
      · exact ih _ fr x h M hNM
      · cases h
    | block i a =>
      simp only [evC] at h ⊢
      cases h1 : evC ext c N a fr with
      | none => simp [h1] at h
      | some q =>
        rw [ih a fr _ h1 M hNM]
        rw [h1] at h
        exact h
    | loop a =>
      simp only [evC] at h ⊢
      cases h1 : evC ext c N a fr with
      | none => simp [h1] at h
      | some q =>
        obtain ⟨ex1, f1⟩ := q
        rw [ih a fr _ h1 M hNM]
        rw [h1] at h
        cases ex1 with
        | nrm => exact ih (.loop a) f1 x h M hNM
        | _ => exact h
    | scope a => simp only [evC] at h ⊢; exact ih _ fr x h M hNM
    | sc a b =>
      simp only [evC] at h ⊢
      cases h1 : evC ext c N b fr with
      | none => simp [h1] at h
      | some q =>
        obtain ⟨ex1, f1⟩ := q
        rw [ih b fr _ h1 M hNM]
        rw [h1] at h
        cases ex1 with
        | goto l =>
          simp only at h ⊢
          cases hf : findL a l with
          | none => simpa [hf] using h
          | some rest => simp only [hf] at h ⊢; exact ih _ f1 x h M hNM
        | _ => exact h

end

theorem evF_le (E : Env) : ∀ (N M : Nat), N ≤ M → CallLe (evF E N) (evF E M)
  | 0, M, _ => fun ad f a fo r h => by simp [evF] at h
  | N + 1, M, hM => by
    obtain ⟨M, rfl⟩ : ∃ m, M = m + 1 := ⟨M - 1, by omega⟩
    have ih := evF_le E N M (by omega)
    intro ad f a fo r h
    simp only [evF] at h ⊢
    cases hp : E.prim f with
    | some p => simpa [hp] using h
    | none =>
      simp only [hp] at h ⊢
      cases hf : E.fns f with
      | none => simp [hf] at h
      | some d =>
        simp only [hf] at h ⊢
        cases h1 : evC E.ext (evF E N) N d.body (enter d a fo) with
        | none => simp [h1] at h
        | some q =>
          rw [evC_le ih E.ext N d.body (enter d a fo) q h1 M (by omega)]
          rw [h1] at h
          exact h

end Go.Dev

/- A calculus of the evaluator: frames as functions, what is still to be done as a list. -/
namespace Go.Dev.Wk
open Go Go.Dev

def upf {α : Type} (f : Nat → α) (d : Nat) (x : α) : Nat → α := fun i => if i = d then x else f i

theorem upf_at {α : Type} (f : Nat → α) (d : Nat) (x : α) (i : Nat) : upf f d x i = if i = d then x else f i := rfl

/-- A frame whose places are told by functions. -/
def ofF (n m : Nat) (tm : Nat → T) (bx : Nat → Ob) (fo : List Ob) : Fr := ⟨n, (List.range n).map tm, (List.range m).map bx, fo⟩

section
variable {n m : Nat} {tm : Nat → T} {bx : Nat → Ob} {fo : List Ob}

theorem ofF_n : (ofF n m tm bx fo).n = n := rfl
theorem ofF_fo : (ofF n m tm bx fo).fo = fo := rfl

theorem ofF_tm_at (i : Nat) : (ofF n m tm bx fo).tm[i]? = if i < n then some (tm i) else none := by
  simp only [ofF, List.getElem?_map, List.getElem?_range']
  by_cases h : i < n
  · simp [h]
  · simp [h, List.getElem?_eq_none]

theorem ofF_bx_at (i : Nat) : (ofF n m tm bx fo).bx[i]? = if i < m then some (bx i) else none := by
  simp only [ofF, List.getElem?_map]
  by_cases h : i < m
  · simp [h]
  · simp [h, List.getElem?_eq_none]

theorem ofF_get (i : Nat) : (ofF n m tm bx fo).get (.t i) = if i < n then tm i else .one .dead := by
  have := ofF_tm_at (n := n) (m := m) (tm := tm) (bx := bx) (fo := fo) i
  simp only [Fr.get, List.getD_eq_getElem?_getD, this]
  by_cases h : i < n <;> simp [h]

theorem ofF_getc (x : T) : (ofF n m tm bx fo).get (.c x) = x := rfl

theorem ofF_look (h : Nat) : (ofF n m tm bx fo).look (.home h) = if h < m then some (bx h) else none := ofF_bx_at h
theorem ofF_lookfo (i : Nat) : (ofF n m tm bx fo).look (.fo i) = fo[i]? := rfl

theorem map_range_set {α : Type} (f : Nat → α) (d : Nat) (x : α) : ((List.range n).map f).set d x = (List.range n).map (upf f d x) := by
  apply List.ext_getElem?
  intro i
  rw [List.getElem?_set]
  simp only [List.length_map, List.length_range, List.getElem?_map]
  by_cases hi : i < n
  · simp only [List.getElem?_range hi, Option.map_some, upf]
    by_cases hd : d = i
    · subst hd; simp [hi]
    · simp [hd, Ne.symm hd]
  · have : (List.range n)[i]? = none := by simp [List.getElem?_eq_none]; omega
    by_cases hd : d = i
    · subst hd; simp [hi]
    · simp [hd, this]

theorem ofF_put (d : Nat) (x : T) : putT (ofF n m tm bx fo) (some d) x = ofF n m (upf tm d x) bx fo := by
  simp only [putT, ofF, map_range_set]

theorem ofF_put0 (x : T) : putT (ofF n m tm bx fo) none x = ofF n m tm bx fo := rfl

theorem ofF_setb (h : Nat) (o : Ob) : (ofF n m tm bx fo).write (.setb h o) = if h < m then some (ofF n m tm (upf bx h o) fo) else none := by
  simp only [Fr.write, ofF, List.length_map, List.length_range, map_range_set]

theorem ofF_cells (h off : Nat) (cs : List C) : (ofF n m tm bx fo).write (.cells (.home h) off cs) =
    if h < m then if off + cs.length ≤ (bx h).cs.length then some (ofF n m tm (upf bx h ⟨(bx h).g, (bx h).ty, splice (bx h).cs off cs⟩) fo) else none else none := by
  simp only [Fr.write, ofF_bx_at]
  by_cases hm : h < m
  · simp only [hm, if_true]
    split
    · simp only [ofF, map_range_set]
    · rfl
  · simp only [hm, if_false]

theorem ofF_cellsfo (i off : Nat) (cs : List C) : (ofF n m tm bx fo).write (.cells (.fo i) off cs) =
    match fo[i]? with
    | some o => if off + cs.length ≤ o.cs.length then some (ofF n m tm bx (fo.set i ⟨o.g, o.ty, splice o.cs off cs⟩)) else none
    | none => none := by
  simp only [Fr.write, ofF]
  cases fo[i]? <;> rfl

end

/-- The temporaries at the entry. -/
def tmOf : Nat → List T → Nat → T
  | _, [] => fun _ => .one .dead
  | i, a :: l => upf (tmOf (i + 1) l) i a

theorem tmOf_at : ∀ (l : List T) (i j : Nat), tmOf j l i = if j ≤ i then l.getD (i - j) (.one .dead) else .one .dead
  | [], i, j => by simp [tmOf]
  | a :: l, i, j => by
    simp only [tmOf, upf, tmOf_at l i (j + 1)]
    by_cases h : i = j
    · subst h; simp
    · by_cases h2 : j ≤ i
      · obtain ⟨k, rfl⟩ : ∃ k, i = j + 1 + k := ⟨i - (j + 1), by omega⟩
        have e1 : j + 1 + k - j = k + 1 := by omega
        have e2 : j + 1 + k - (j + 1) = k := by omega
        have e3 : j + 1 ≤ j + 1 + k := by omega
        have e4 : j ≤ j + 1 + k := by omega
        have e5 : ¬ j + 1 + k = j := by omega
        simp [e1, e2, e3, e4, e5]
      · simp [h, h2, show ¬ (j + 1 ≤ i) by omega]

theorem enter_ofF (d : DFn) (args : List T) (fo : List Ob) (h : args.length ≤ d.ntmps) :
    enter d args fo = ofF d.ntmps (2 * d.ntmps + fo.length) (tmOf 0 args) (fun _ => ⟨0, 0, []⟩) (enterF d.ntmps 0 fo) := by
  simp only [enter, ofF, Fr.mk.injEq, true_and, and_true]
  constructor
  · apply List.ext_getElem?
    intro i
    simp only [List.getElem?_append, List.getElem?_replicate, List.getElem?_map]
    by_cases hi : i < d.ntmps
    · simp only [List.getElem?_range hi, Option.map_some, tmOf_at, Nat.zero_le, if_true, Nat.sub_zero, List.getD_eq_getElem?_getD]
      by_cases ha : i < args.length
      · simp [ha]
      · simp [ha, show i - args.length < d.ntmps - args.length by omega, List.getElem?_eq_none (Nat.le_of_not_lt ha)]
    · have h1 : (List.range d.ntmps)[i]? = none := by simp [List.getElem?_eq_none]; omega
      simp [h1, show ¬ i < args.length by omega, show ¬ (i - args.length < d.ntmps - args.length) by omega]
  · apply List.ext_getElem?
    intro i
    simp only [List.getElem?_replicate, List.getElem?_map]
    by_cases hi : i < 2 * d.ntmps + fo.length
    · simp [hi]
    · have h1 : (List.range (2 * d.ntmps + fo.length))[i]? = none := by simp [List.getElem?_eq_none]; omega
      simp [h1, hi]

/-! ### Code -/

inductive Kt where
  | seq (b : DCode)
  | block (id : Nat)
  | loop (b : DCode)
  | sc (b : DCode)

variable {E : Env}

theorem ev_up {N M N' M' : Nat} {c : DCode} {fr : Fr} {r : Ex × Fr} (h : evC E.ext (evF E N) M c fr = some r) (h1 : N ≤ N') (h2 : M ≤ M') : evC E.ext (evF E N') M' c fr = some r :=
  evC_le (evF_le E N N' h1) E.ext M c fr r h M' h2

def EvC (E : Env) (c : DCode) (fr : Fr) (ex : Ex) (fr' : Fr) : Prop := ∃ N M, evC E.ext (evF E N) M c fr = some (ex, fr')

def Gone (E : Env) (Q : Ex → Fr → Prop) : List Kt → Ex → Fr → Prop
  | [], ex, fr => Q ex fr
  | .seq b :: ks, ex, fr => match ex with
    | .nrm => ∃ ex' fr', EvC E b fr ex' fr' ∧ Gone E Q ks ex' fr'
    | .exit i => Gone E Q ks (.exit i) fr
    | .goto l => Gone E Q ks (.goto l) fr
    | .ret => Gone E Q ks .ret fr
  | .block id :: ks, ex, fr => match ex with
    | .nrm => Gone E Q ks .nrm fr
    | .exit i => if i = id then Gone E Q ks .nrm fr else Gone E Q ks (.exit i) fr
    | .goto l => Gone E Q ks (.goto l) fr
    | .ret => Gone E Q ks .ret fr
  | .loop b :: ks, ex, fr => match ex with
    | .nrm => ∃ ex' fr', EvC E (.loop b) fr ex' fr' ∧ Gone E Q ks ex' fr'
    | .exit i => Gone E Q ks (.exit i) fr
    | .goto l => Gone E Q ks (.goto l) fr
    | .ret => Gone E Q ks .ret fr
  | .sc b :: ks, ex, fr => match ex with
    | .nrm => Gone E Q ks .nrm fr
    | .exit i => Gone E Q ks (.exit i) fr
    | .goto l => match findL b l with
      | some rest => ∃ ex' fr', EvC E (.sc b rest) fr ex' fr' ∧ Gone E Q ks ex' fr'
      | none => Gone E Q ks (.goto l) fr
    | .ret => Gone E Q ks .ret fr

def Wp (E : Env) (c : DCode) (fr : Fr) (ks : List Kt) (Q : Ex → Fr → Prop) : Prop := ∃ ex' fr', EvC E c fr ex' fr' ∧ Gone E Q ks ex' fr'

variable {Q : Ex → Fr → Prop} {ks : List Kt} {fr : Fr}

theorem gone_nil {ex : Ex} : Gone E Q [] ex fr ↔ Q ex fr := Iff.rfl
theorem gone_seq {b : DCode} : Gone E Q (.seq b :: ks) .nrm fr ↔ Wp E b fr ks Q := Iff.rfl
theorem gone_seq_exit {b : DCode} {i : Nat} : Gone E Q (.seq b :: ks) (.exit i) fr ↔ Gone E Q ks (.exit i) fr := Iff.rfl
theorem gone_seq_goto {b : DCode} {i : Nat} : Gone E Q (.seq b :: ks) (.goto i) fr ↔ Gone E Q ks (.goto i) fr := Iff.rfl
theorem gone_seq_ret {b : DCode} : Gone E Q (.seq b :: ks) .ret fr ↔ Gone E Q ks .ret fr := Iff.rfl
theorem gone_block {id : Nat} : Gone E Q (.block id :: ks) .nrm fr ↔ Gone E Q ks .nrm fr := Iff.rfl
theorem gone_block_exit {id i : Nat} : Gone E Q (.block id :: ks) (.exit i) fr ↔ if i = id then Gone E Q ks .nrm fr else Gone E Q ks (.exit i) fr := Iff.rfl
theorem gone_block_goto {id i : Nat} : Gone E Q (.block id :: ks) (.goto i) fr ↔ Gone E Q ks (.goto i) fr := Iff.rfl
theorem gone_block_ret {id : Nat} : Gone E Q (.block id :: ks) .ret fr ↔ Gone E Q ks .ret fr := Iff.rfl
theorem gone_loop {b : DCode} : Gone E Q (.loop b :: ks) .nrm fr ↔ Wp E (.loop b) fr ks Q := Iff.rfl
theorem gone_loop_exit {b : DCode} {i : Nat} : Gone E Q (.loop b :: ks) (.exit i) fr ↔ Gone E Q ks (.exit i) fr := Iff.rfl
theorem gone_loop_goto {b : DCode} {i : Nat} : Gone E Q (.loop b :: ks) (.goto i) fr ↔ Gone E Q ks (.goto i) fr := Iff.rfl
theorem gone_loop_ret {b : DCode} : Gone E Q (.loop b :: ks) .ret fr ↔ Gone E Q ks .ret fr := Iff.rfl
theorem gone_sc {b : DCode} : Gone E Q (.sc b :: ks) .nrm fr ↔ Gone E Q ks .nrm fr := Iff.rfl
theorem gone_sc_exit {b : DCode} {i : Nat} : Gone E Q (.sc b :: ks) (.exit i) fr ↔ Gone E Q ks (.exit i) fr := Iff.rfl
theorem gone_sc_ret {b : DCode} : Gone E Q (.sc b :: ks) .ret fr ↔ Gone E Q ks .ret fr := Iff.rfl
theorem gone_sc_goto {b rest : DCode} {l : Nat} (h : findL b l = some rest) : Gone E Q (.sc b :: ks) (.goto l) fr ↔ Wp E (.sc b rest) fr ks Q := by
  simp only [Gone, h]; exact Iff.rfl
theorem gone_sc_none {b : DCode} {l : Nat} (h : findL b l = none) : Gone E Q (.sc b :: ks) (.goto l) fr ↔ Gone E Q ks (.goto l) fr := by
  simp only [Gone, h]

theorem wp_iff {c : DCode} {ks' : List Kt} {c' : DCode} (h1 : ∀ ex fr', EvC E c fr ex fr' → Gone E Q ks ex fr' → Wp E c' fr ks' Q) (h2 : ∀ ex fr', EvC E c' fr ex fr' → Gone E Q ks' ex fr' → Wp E c fr ks Q) : Wp E c fr ks Q ↔ Wp E c' fr ks' Q :=
  ⟨fun ⟨ex, fr', a, b⟩ => h1 ex fr' a b, fun ⟨ex, fr', a, b⟩ => h2 ex fr' a b⟩

theorem wp_seq {a b : DCode} : Wp E (.seq a b) fr ks Q ↔ Wp E a fr (.seq b :: ks) Q := by
  refine wp_iff ?_ ?_
  · rintro ex fr' ⟨N, M, h⟩ hg
    cases M with
    | zero => simp [evC] at h
    | succ M =>
      simp only [evC] at h
      cases h1 : evC E.ext (evF E N) M a fr with
      | none => simp [h1] at h
      | some q =>
        obtain ⟨ex1, f1⟩ := q
        rw [h1] at h
        cases ex1 with
        | nrm => exact ⟨.nrm, f1, ⟨N, M, h1⟩, ex, fr', ⟨N, M, h⟩, hg⟩
        | exit i => simp only [Option.some.injEq, Prod.mk.injEq] at h; obtain ⟨rfl, rfl⟩ := h; exact ⟨_, f1, ⟨N, M, h1⟩, hg⟩
        | goto i => simp only [Option.some.injEq, Prod.mk.injEq] at h; obtain ⟨rfl, rfl⟩ := h; exact ⟨_, f1, ⟨N, M, h1⟩, hg⟩
        | ret => simp only [Option.some.injEq, Prod.mk.injEq] at h; obtain ⟨rfl, rfl⟩ := h; exact ⟨_, f1, ⟨N, M, h1⟩, hg⟩
  · rintro ex fr' ⟨N, M, h⟩ hg
    cases ex with
    | nrm =>
      obtain ⟨ex2, f2, ⟨N2, M2, h2⟩, hg⟩ := hg
      refine ⟨ex2, f2, ⟨max N N2, max M M2 + 1, ?_⟩, hg⟩
      simp only [evC, ev_up h (Nat.le_max_left N N2) (Nat.le_max_left M M2), ev_up h2 (Nat.le_max_right N N2) (Nat.le_max_right M M2)]
    | exit i => exact ⟨_, fr', ⟨N, M + 1, by simp only [evC, h]⟩, hg⟩
    | goto i => exact ⟨_, fr', ⟨N, M + 1, by simp only [evC, h]⟩, hg⟩
    | ret => exact ⟨_, fr', ⟨N, M + 1, by simp only [evC, h]⟩, hg⟩

theorem wp_block {a : DCode} {id : Nat} : Wp E (.block id a) fr ks Q ↔ Wp E a fr (.block id :: ks) Q := by
  refine wp_iff ?_ ?_
  · rintro ex fr' ⟨N, M, h⟩ hg
    cases M with
    | zero => simp [evC] at h
    | succ M =>
      simp only [evC] at h
      cases h1 : evC E.ext (evF E N) M a fr with
      | none => simp [h1] at h
      | some q =>
        obtain ⟨ex1, f1⟩ := q
        rw [h1] at h
        refine ⟨ex1, f1, ⟨N, M, h1⟩, ?_⟩
        cases ex1 with
        | exit i =>
          simp only at h
          rw [gone_block_exit]
          split at h <;> (rename_i hi; simp only [Option.some.injEq, Prod.mk.injEq] at h; obtain ⟨rfl, rfl⟩ := h; simp only [hi, if_true, if_false]; exact hg)
        | nrm => simp only [Option.some.injEq, Prod.mk.injEq] at h; obtain ⟨rfl, rfl⟩ := h; exact hg
        | goto i => simp only [Option.some.injEq, Prod.mk.injEq] at h; obtain ⟨rfl, rfl⟩ := h; exact hg
        | ret => simp only [Option.some.injEq, Prod.mk.injEq] at h; obtain ⟨rfl, rfl⟩ := h; exact hg
  · rintro ex fr' ⟨N, M, h⟩ hg
    cases ex with
    | exit i =>
      rw [gone_block_exit] at hg
      by_cases hi : i = id
      · rw [if_pos hi] at hg
        exact ⟨_, fr', ⟨N, M + 1, by simp only [evC, h, hi, if_true]⟩, hg⟩
      · rw [if_neg hi] at hg
        exact ⟨_, fr', ⟨N, M + 1, by simp only [evC, h, hi, if_false]⟩, hg⟩
    | nrm => exact ⟨_, fr', ⟨N, M + 1, by simp only [evC, h]⟩, hg⟩
    | goto i => exact ⟨_, fr', ⟨N, M + 1, by simp only [evC, h]⟩, hg⟩
    | ret => exact ⟨_, fr', ⟨N, M + 1, by simp only [evC, h]⟩, hg⟩

theorem wp_loop {b : DCode} : Wp E (.loop b) fr ks Q ↔ Wp E b fr (.loop b :: ks) Q := by
  refine wp_iff ?_ ?_
  · rintro ex fr' ⟨N, M, h⟩ hg
    cases M with
    | zero => simp [evC] at h
    | succ M =>
      simp only [evC] at h
      cases h1 : evC E.ext (evF E N) M b fr with
      | none => simp [h1] at h
      | some q =>
        obtain ⟨ex1, f1⟩ := q
        rw [h1] at h
        cases ex1 with
        | nrm => exact ⟨.nrm, f1, ⟨N, M, h1⟩, ex, fr', ⟨N, M, h⟩, hg⟩
        | exit i => simp only [Option.some.injEq, Prod.mk.injEq] at h; obtain ⟨rfl, rfl⟩ := h; exact ⟨_, f1, ⟨N, M, h1⟩, hg⟩
        | goto i => simp only [Option.some.injEq, Prod.mk.injEq] at h; obtain ⟨rfl, rfl⟩ := h; exact ⟨_, f1, ⟨N, M, h1⟩, hg⟩
        | ret => simp only [Option.some.injEq, Prod.mk.injEq] at h; obtain ⟨rfl, rfl⟩ := h; exact ⟨_, f1, ⟨N, M, h1⟩, hg⟩
  · rintro ex fr' ⟨N, M, h⟩ hg
    cases ex with
    | nrm =>
      obtain ⟨ex2, f2, ⟨N2, M2, h2⟩, hg⟩ := hg
      refine ⟨ex2, f2, ⟨max N N2, max M M2 + 1, ?_⟩, hg⟩
      simp only [evC, ev_up h (Nat.le_max_left N N2) (Nat.le_max_left M M2), ev_up h2 (Nat.le_max_right N N2) (Nat.le_max_right M M2)]
    | exit i => exact ⟨_, fr', ⟨N, M + 1, by simp only [evC, h]⟩, hg⟩
    | goto i => exact ⟨_, fr', ⟨N, M + 1, by simp only [evC, h]⟩, hg⟩
    | ret => exact ⟨_, fr', ⟨N, M + 1, by simp only [evC, h]⟩, hg⟩

theorem wp_step {c : DCode} {ex : Ex} {fr' : Fr} (h : ∀ call M, evC E.ext call (M + 1) c fr = some (ex, fr')) : Wp E c fr ks Q ↔ Gone E Q ks ex fr' := by
  constructor
  · rintro ⟨ex2, f2, ⟨N, M, h2⟩, hg⟩
    cases M with
    | zero => simp [evC] at h2
    | succ M => rw [h] at h2; simp only [Option.some.injEq, Prod.mk.injEq] at h2; obtain ⟨rfl, rfl⟩ := h2; exact hg
  · intro hg; exact ⟨ex, fr', ⟨0, 1, h _ _⟩, hg⟩

theorem wp_skip : Wp E .skip fr ks Q ↔ Gone E Q ks .nrm fr := wp_step fun _ _ => rfl
theorem wp_label {l : Nat} : Wp E (.label l) fr ks Q ↔ Gone E Q ks .nrm fr := wp_step fun _ _ => rfl
theorem wp_exit {l : Nat} : Wp E (.exit l) fr ks Q ↔ Gone E Q ks (.exit l) fr := wp_step fun _ _ => rfl
theorem wp_goto {l : Nat} : Wp E (.goto l) fr ks Q ↔ Gone E Q ks (.goto l) fr := wp_step fun _ _ => rfl
theorem wp_ret : Wp E .ret fr ks Q ↔ Gone E Q ks .ret fr := wp_step fun _ _ => rfl

/-- A test. -/
def CondK (E : Env) (a b : DCode) (fr : Fr) (ks : List Kt) (Q : Ex → Fr → Prop) : T → Prop
  | .one (.v (.s (.bool t))) => if t = true then Wp E a fr ks Q else Wp E b fr ks Q
  | _ => False

theorem wp_cond {x : Opd} {a b : DCode} : Wp E (.cond x a b) fr ks Q ↔ CondK E a b fr ks Q (fr.get x) := by
  have key : ∀ t : Bool, fr.get x = .one (.v (.s (.bool t))) → (Wp E (.cond x a b) fr ks Q ↔ Wp E (if t then a else b) fr ks Q) := by
    intro t ht
    refine wp_iff ?_ ?_
    · rintro ex fr' ⟨N, M, h⟩ hg
      cases M with
      | zero => simp [evC] at h
      | succ M => simp only [evC, ht] at h; exact ⟨ex, fr', ⟨N, M, h⟩, hg⟩
    · rintro ex fr' ⟨N, M, h⟩ hg
      exact ⟨ex, fr', ⟨N, M + 1, by simp only [evC, ht]; exact h⟩, hg⟩
  by_cases hx : ∃ t, fr.get x = .one (.v (.s (.bool t)))
  · obtain ⟨t, ht⟩ := hx
    rw [key t ht, ht]
    cases t <;> simp [CondK]
  · constructor
    · rintro ⟨ex, fr', ⟨N, M, h⟩, hg⟩
      cases M with
      | zero => simp [evC] at h
      | succ M =>
        simp only [evC] at h
        split at h
        · rename_i t ht; exact absurd ⟨t, ht⟩ hx
        · cases h
    · intro h
      unfold CondK at h
      split at h
      · rename_i t ht; exact absurd ⟨t, ht⟩ hx
      · exact h.elim

theorem condK_eq {a b : DCode} {t : Bool} : CondK E a b fr ks Q (.one (.v (.s (.bool t)))) ↔ if t = true then Wp E a fr ks Q else Wp E b fr ks Q := Iff.rfl

theorem condK_t {a b : DCode} : CondK E a b fr ks Q (.one (.v (.s (.bool true)))) ↔ Wp E a fr ks Q := by simp [CondK]
theorem condK_f {a b : DCode} : CondK E a b fr ks Q (.one (.v (.s (.bool false)))) ↔ Wp E b fr ks Q := by simp [CondK]
theorem condK_by {a b : DCode} {t : Bool} (h1 : t = true → Wp E a fr ks Q) (h2 : t = false → Wp E b fr ks Q) : CondK E a b fr ks Q (.one (.v (.s (.bool t)))) := by
  cases t
  · exact condK_f.2 (h2 rfl)
  · exact condK_t.2 (h1 rfl)

theorem wp_sc {b c : DCode} : Wp E (.sc b c) fr ks Q ↔ Wp E c fr (.sc b :: ks) Q := by
  refine wp_iff ?_ ?_
  · rintro ex fr' ⟨N, M, h⟩ hg
    cases M with
    | zero => simp [evC] at h
    | succ M =>
      simp only [evC] at h
      cases h1 : evC E.ext (evF E N) M c fr with
      | none => simp [h1] at h
      | some q =>
        obtain ⟨ex1, f1⟩ := q
        rw [h1] at h
        refine ⟨ex1, f1, ⟨N, M, h1⟩, ?_⟩
        cases ex1 with
        | goto l =>
          simp only at h
          cases hf : findL b l with
          | none => rw [gone_sc_none hf]; simp only [hf, Option.some.injEq, Prod.mk.injEq] at h; obtain ⟨rfl, rfl⟩ := h; exact hg
          | some rest => rw [gone_sc_goto hf]; simp only [hf] at h; exact ⟨ex, fr', ⟨N, M, h⟩, hg⟩
        | exit i => simp only [Option.some.injEq, Prod.mk.injEq] at h; obtain ⟨rfl, rfl⟩ := h; exact hg
        | nrm => simp only [Option.some.injEq, Prod.mk.injEq] at h; obtain ⟨rfl, rfl⟩ := h; exact hg
        | ret => simp only [Option.some.injEq, Prod.mk.injEq] at h; obtain ⟨rfl, rfl⟩ := h; exact hg
  · rintro ex fr' ⟨N, M, h⟩ hg
    cases ex with
    | goto l =>
      cases hf : findL b l with
      | none =>
        rw [gone_sc_none hf] at hg
        exact ⟨_, fr', ⟨N, M + 1, by simp only [evC, h, hf]⟩, hg⟩
      | some rest =>
        rw [gone_sc_goto hf] at hg
        obtain ⟨ex2, f2, ⟨N2, M2, h2⟩, hg⟩ := hg
        refine ⟨ex2, f2, ⟨max N N2, max M M2 + 1, ?_⟩, hg⟩
        simp only [evC, ev_up h (Nat.le_max_left N N2) (Nat.le_max_left M M2), hf, ev_up h2 (Nat.le_max_right N N2) (Nat.le_max_right M M2)]
    | nrm => exact ⟨_, fr', ⟨N, M + 1, by simp only [evC, h]⟩, hg⟩
    | exit i => exact ⟨_, fr', ⟨N, M + 1, by simp only [evC, h]⟩, hg⟩
    | ret => exact ⟨_, fr', ⟨N, M + 1, by simp only [evC, h]⟩, hg⟩

theorem wp_scope {b : DCode} : Wp E (.scope b) fr ks Q ↔ Wp E b fr (.sc b :: ks) Q := by
  rw [← wp_sc]
  refine wp_iff ?_ ?_
  · rintro ex fr' ⟨N, M, h⟩ hg
    cases M with
    | zero => simp [evC] at h
    | succ M => simp only [evC] at h; exact ⟨ex, fr', ⟨N, M, h⟩, hg⟩
  · rintro ex fr' ⟨N, M, h⟩ hg
    exact ⟨ex, fr', ⟨N, M + 1, by simp only [evC]; exact h⟩, hg⟩

/-! ### Regions -/

abbrev Foot := List Loc × List W

def WR (E : Env) (bad : List (Nat × Nat)) (os : List DOper) (fr : Fr) (fs : List Foot) (ks : List Kt) (Q : Ex → Fr → Prop) : Prop :=
  ∃ N fr' fs', run E.ext (evF E N) os fr = some (fr', fs') ∧ checkBad (fs ++ fs') bad = true ∧ Gone E Q ks .nrm fr'

variable {bad : List (Nat × Nat)} {os : List DOper} {fs : List Foot}

theorem wp_region : Wp E (.region os bad) fr ks Q ↔ WR E bad os fr [] ks Q := by
  constructor
  · rintro ⟨ex, fr', ⟨N, M, h⟩, hg⟩
    cases M with
    | zero => simp [evC] at h
    | succ M =>
      simp only [evC] at h
      cases h1 : run E.ext (evF E N) os fr with
      | none => simp [h1] at h
      | some q =>
        obtain ⟨f1, fs'⟩ := q
        simp only [h1] at h
        split at h
        · rename_i hb
          simp only [Option.some.injEq, Prod.mk.injEq] at h
          obtain ⟨rfl, rfl⟩ := h
          exact ⟨N, f1, fs', h1, by simpa using hb, hg⟩
        · cases h
  · rintro ⟨N, f1, fs', h1, hb, hg⟩
    exact ⟨.nrm, f1, ⟨N, 1, by simp only [evC, h1]; simp only [List.nil_append] at hb; simp [hb]⟩, hg⟩

theorem wr_nil : WR E bad [] fr fs ks Q ↔ checkBad fs bad = true ∧ Gone E Q ks .nrm fr := by
  constructor
  · rintro ⟨N, f1, fs', h1, hb, hg⟩
    simp only [run, Option.some.injEq, Prod.mk.injEq] at h1
    obtain ⟨rfl, rfl⟩ := h1
    exact ⟨by simpa using hb, hg⟩
  · rintro ⟨hb, hg⟩
    exact ⟨0, fr, [], rfl, by simpa using hb, hg⟩

theorem wr_nil0 : WR E [] [] fr fs ks Q ↔ Gone E Q ks .nrm fr := by
  rw [wr_nil]; simp [checkBad]

theorem wr_forget {f : Foot} : WR E [] os fr (f :: fs) ks Q ↔ WR E [] os fr [] ks Q := by
  constructor
  · rintro ⟨N, f1, fs', h1, _, hg⟩; exact ⟨N, f1, fs', h1, rfl, hg⟩
  · rintro ⟨N, f1, fs', h1, _, hg⟩; exact ⟨N, f1, fs', h1, rfl, hg⟩

def isCall : DOp → Bool
  | .call _ _ => true
  | _ => false

def noC : CallF := fun _ _ _ _ => none

theorem step_nc {ext : Ext} {c c' : CallF} {o : DOper} (h : isCall o.op = false) (fr : Fr) : step ext c o fr = step ext c' o fr := by
  have : act ext c fr.n o fr.get = act ext c' fr.n o fr.get := by
    unfold act
    cases ho : o.op with
    | call f args => rw [ho] at h; cases h
    | slice str _ _ _ _ _ => cases str <;> rfl
    | len str _ => cases str <;> rfl
    | _ => rfl
  simp only [step, this]

def StepK (E : Env) (bad : List (Nat × Nat)) (os : List DOper) (fs : List Foot) (ks : List Kt) (Q : Ex → Fr → Prop) : Option (Fr × Foot) → Prop
  | some (fr', f) => WR E bad os fr' (fs ++ [f]) ks Q
  | none => False

theorem stepK_some {fr' : Fr} {f : Foot} : StepK E bad os fs ks Q (some (fr', f)) ↔ WR E bad os fr' (fs ++ [f]) ks Q := Iff.rfl

theorem wr_cons {o : DOper} (h : isCall o.op = false) : WR E bad (o :: os) fr fs ks Q ↔ StepK E bad os fs ks Q (step E.ext noC o fr) := by
  cases hs : step E.ext noC o fr with
  | none =>
    constructor
    · rintro ⟨N, f1, fs', h1, hb, hg⟩
      simp only [run, step_nc h (c := evF E N) (c' := noC), hs] at h1
      cases h1
    · intro h; exact h.elim
  | some q =>
    obtain ⟨f1, f⟩ := q
    rw [stepK_some]
    constructor
    · rintro ⟨N, f2, fs', h1, hb, hg⟩
      simp only [run, step_nc h (c := evF E N) (c' := noC), hs] at h1
      cases h2 : run E.ext (evF E N) os f1 with
      | none => simp [h2] at h1
      | some q2 =>
        obtain ⟨f3, fs2⟩ := q2
        simp only [h2, Option.some.injEq, Prod.mk.injEq] at h1
        obtain ⟨rfl, rfl⟩ := h1
        exact ⟨N, f3, fs2, h2, by simpa using hb, hg⟩
    · rintro ⟨N, f2, fs', h1, hb, hg⟩
      refine ⟨N, f2, f :: fs', ?_, by simpa using hb, hg⟩
      simp only [run, step_nc h (c := evF E N) (c' := noC), hs, h1]

/-- A step of any kind. -/
theorem wr_step {o : DOper} {fr' : Fr} {f : Foot} {N : Nat} (h : step E.ext (evF E N) o fr = some (fr', f)) (hk : WR E bad os fr' (fs ++ [f]) ks Q) : WR E bad (o :: os) fr fs ks Q := by
  obtain ⟨N2, f2, fs', h1, hb, hg⟩ := hk
  refine ⟨max N N2, f2, f :: fs', ?_, by simpa using hb, hg⟩
  have e1 := step_le (evF_le E N _ (Nat.le_max_left N N2)) E.ext o fr _ h
  have e2 := run_le (evF_le E N2 _ (Nat.le_max_right N N2)) E.ext os fr' _ h1
  simp only [run, e1, e2]

/-! ### Functions -/

def Ev (E : Env) (ad : Bool) (f : Nat) (args : List T) (fo : List Ob) (r : T) (fo' : List Ob) : Prop := ∃ N, evF E N ad f args fo = some (r, fo')

/-- A function's end. -/
def Fin (res : List DRes) (ad : Bool) (r : T) (fo' : List Ob) : Ex → Fr → Prop
  | .nrm, fr => ∃ rs, getAll fr res = some rs ∧ finish ad fr rs = some (r, fo')
  | .ret, fr => ∃ rs, getAll fr res = some rs ∧ finish ad fr rs = some (r, fo')
  | _, _ => False

theorem ev_of_wp {ad : Bool} {f : Nat} {d : DFn} {args : List T} {fo fo' : List Ob} {r : T} (hp : E.prim f = none) (hd : E.fns f = some d)
    (hl : args.length ≤ d.ntmps)
    (h : Wp E d.body (ofF d.ntmps (2 * d.ntmps + fo.length) (tmOf 0 args) (fun _ => ⟨0, 0, []⟩) (enterF d.ntmps 0 fo)) [] (Fin d.res ad r fo')) : Ev E ad f args fo r fo' := by
  rw [← enter_ofF d args fo hl] at h
  obtain ⟨ex, fr, ⟨N, M, h1⟩, hg⟩ := h
  rw [gone_nil] at hg
  refine ⟨max N M + 1, ?_⟩
  simp only [evF, hp, hd, ev_up h1 (Nat.le_max_left N M) (Nat.le_max_right N M)]
  cases ex with
  | nrm => obtain ⟨rs, e1, e2⟩ := hg; simp only [e1, e2]
  | ret => obtain ⟨rs, e1, e2⟩ := hg; simp only [e1, e2]
  | exit i => exact hg.elim
  | goto i => exact hg.elim

/-- A call where no variable is handed in. -/
theorem wr_call {f : Opd} {args : List Opd} {dst : Option Nat} {k : Nat} {first caps : List C} {all : List T} {r x : T}
    (hf : callee (fr.get f) = some (k, first, caps)) (he : E.ext k = none) (ha : first.map T.one ++ args.map fr.get ++ caps.map T.one = all) (hk : all.flatMap refsT = [])
    (h : Ev E false k (all.map (trT [])) [] r []) (hb : backT [] r = some x)
    (hw : WR E bad os (putT fr dst x) (fs ++ [([], [])]) ks Q) : WR E bad (⟨dst, .call f args, none, false⟩ :: os) fr fs ks Q := by
  obtain ⟨N, h⟩ := h
  refine wr_step (N := N) ?_ hw
  subst ha
  simp only [step, wants, act, callOp, hf, he, hk, dedup, List.isEmpty_nil, if_true, Fr.ask, callEnd, handIn, h, handBack, List.length_nil, hb, Option.map_some, Bool.false_eq_true, if_false, Fr.writes]

/-- What is looked at when variables are handed in. -/
def gatherC (fr : Fr) : Nat → List Key → Option (List Key × List Ob × List Loc)
  | 0, _ => none
  | r + 1, ks => match fr.looks (keyLocs fr.n ks) with
    | none => none
    | some obs => let ks' := dedup (ks ++ obsKeys obs)
      if ks' = ks then some (ks, obs, keyLocs fr.n ks) else match gatherC fr r ks' with
        | some (k2, o2, l2) => some (k2, o2, keyLocs fr.n ks ++ l2)
        | none => none

theorem gather_ask {n : Nat} {k : List Key → List Ob → Ans} : ∀ (r : Nat) (ks : List Key) (k2 : List Key) (o2 : List Ob) (l2 : List Loc) (t : T) (ws : List W), fr.n = n → gatherC fr r ks = some (k2, o2, l2) → k k2 o2 = some (t, ws) → fr.ask (gather n ks k r) = some (t, ws, l2)
  | 0, ks, k2, o2, l2, t, ws, hn, h, hk => by simp [gatherC] at h
  | r + 1, ks, k2, o2, l2, t, ws, hn, h, hk => by
    subst hn
    simp only [gatherC] at h
    simp only [gather, Fr.ask]
    cases h1 : fr.looks (keyLocs fr.n ks) with
    | none => simp [h1] at h
    | some obs =>
      simp only [h1] at h ⊢
      split at h
      · rename_i he
        simp only [Option.some.injEq, Prod.mk.injEq] at h
        obtain ⟨rfl, rfl, rfl⟩ := h
        simp only [he, if_true, Fr.ask, hk, List.append_nil]
      · rename_i he
        simp only [he, if_false]
        cases h2 : gatherC fr r (dedup (ks ++ obsKeys obs)) with
        | none => simp [h2] at h
        | some q =>
          obtain ⟨k3, o3, l3⟩ := q
          simp only [h2, Option.some.injEq, Prod.mk.injEq] at h
          obtain ⟨rfl, rfl, rfl⟩ := h
          rw [gather_ask r _ k3 o3 l3 t ws rfl h2 hk]

/-- A call where variables are handed in. -/
theorem wr_callk {f : Opd} {args : List Opd} {dst : Option Nat} {k : Nat} {first caps : List C} {all : List T} {r x : T} {keys : List Key} {obs fo fo' : List Ob} {ls : List Loc} {ws : List W} {fr' : Fr}
    (hf : callee (fr.get f) = some (k, first, caps)) (he : E.ext k = none) (ha : first.map T.one ++ args.map fr.get ++ caps.map T.one = all)
    (hne : (dedup (all.flatMap refsT)).isEmpty = false)
    (hg : gatherC fr 4 (dedup (all.flatMap refsT)) = some (keys, obs, ls)) (hin : handIn fr.n keys keys obs = some fo)
    (h : Ev E false k (all.map (trT keys)) fo r fo') (hba : handBack fr.n keys keys obs fo' = some ws) (hl : fo'.length = keys.length) (hb : backT keys r = some x)
    (hws : fr.writes ws = some fr')
    (hw : WR E bad os (putT fr' dst x) (fs ++ [(ls, ws)]) ks Q) : WR E bad (⟨dst, .call f args, none, false⟩ :: os) fr fs ks Q := by
  obtain ⟨N, h⟩ := h
  refine wr_step (N := N) ?_ hw
  subst ha
  have hc : callEnd (evF E N) fr.n k (first.map T.one ++ args.map fr.get ++ caps.map T.one) keys obs = some (x, ws) := by
    simp only [callEnd, hin, h, hba, hl, if_true, hb, Option.map_some]
  have hq := gather_ask (fr := fr) (k := callEnd (evF E N) fr.n k (first.map T.one ++ args.map fr.get ++ caps.map T.one)) 4 _ _ _ _ x ws rfl hg hc
  simp only [step, wants, act, callOp, hf, he, hne, Bool.false_eq_true, if_false, hq, hws]

/-- A call whose new list is taken over. -/
theorem wr_calla {f : Opd} {args : List Opd} {d : Nat} {k : Nat} {first caps : List C} {all : List T} {r x : T} {keys : List Key} {obs fo fo' : List Ob} {ls : List Loc} {ws : List W} {fr' : Fr} {a o : Ob} {xs : List V}
    (hf : callee (fr.get f) = some (k, first, caps)) (he : E.ext k = none) (ha : first.map T.one ++ args.map fr.get ++ caps.map T.one = all)
    (hlk : fr.look (.home d) = some a)
    (hg : gatherC fr 4 (dedup (all.flatMap refsT)) = some (keys, obs, ls)) (hin : handIn fr.n keys keys obs = some fo)
    (h : Ev E true k (all.map (trT keys)) fo r fo') (hba : handBack fr.n keys keys obs fo' = some ws) (hl : fo'[keys.length]? = some o) (hl2 : fo'.length = keys.length + 1) (hxs : toVs o.cs = some xs) (hd : d < fr.n)
    (hat : keys.all (fun k => k.at != .home d) = true) (hb : backT (keys ++ [.loc d (a.g + 1)]) r = some x)
    (hws : fr.writes (ws ++ [.setb d ⟨a.g + 1, o.ty, xs.map .v⟩]) = some fr')
    (hw : WR E bad os (putT fr' (some d) x) (fs ++ [(.home d :: ls, ws ++ [.setb d ⟨a.g + 1, o.ty, xs.map .v⟩])]) ks Q) : WR E bad (⟨some d, .call f args, none, true⟩ :: os) fr fs ks Q := by
  obtain ⟨N, h⟩ := h
  refine wr_step (N := N) ?_ hw
  subst ha
  have hc : callEndA (evF E N) fr.n d a k (first.map T.one ++ args.map fr.get ++ caps.map T.one) keys obs = some (x, ws ++ [.setb d ⟨a.g + 1, o.ty, xs.map .v⟩]) := by
    simp only [callEndA, hin, h, hba, hl, hxs]
    rw [if_pos ⟨hl2, hd, hat⟩]
    simp only [hb, Option.map_some]
  have hq := gather_ask (fr := fr) (k := callEndA (evF E N) fr.n d a k (first.map T.one ++ args.map fr.get ++ caps.map T.one)) 4 _ _ _ _ x _ rfl hg hc
  simp only [step, wants, act, callOp, hf, he, if_true, Option.getD_some, Fr.ask, Fr.looks, hlk, hq, hws, List.singleton_append]

/-! ### Loops -/

theorem loop_ind {α : Type} {b : DCode} {n m : Nat} (I : α → (Nat → T) → (Nat → Ob) → List Ob → Prop) (μ : α → Nat)
    (h : ∀ a tm bx fo, I a tm bx fo → (∀ a' tm' bx' fo', μ a' < μ a → I a' tm' bx' fo' → Wp E (.loop b) (ofF n m tm' bx' fo') ks Q) → Wp E b (ofF n m tm bx fo) (.loop b :: ks) Q) :
    ∀ a tm bx fo, I a tm bx fo → Wp E (.loop b) (ofF n m tm bx fo) ks Q := by
  have key : ∀ k a tm bx fo, μ a = k → I a tm bx fo → Wp E (.loop b) (ofF n m tm bx fo) ks Q := by
    intro k
    induction k using Nat.strongRecOn with
    | _ k ih =>
      intro a tm bx fo hk hI
      rw [wp_loop]
      exact h a tm bx fo hI fun a' tm' bx' fo' hlt hI' => ih (μ a') (by omega) a' tm' bx' fo' rfl hI'
  exact fun a tm bx fo hI => key _ a tm bx fo rfl hI

end Go.Dev.Wk

/- The calculus, operation by operation. -/
namespace Go.Dev.Wk
open Go Go.Dev

variable {E : Env} {Q : Ex → Fr → Prop} {ks : List Kt} {fr : Fr} {bad : List (Nat × Nat)} {os : List DOper} {fs : List Foot}
variable {n m : Nat} {tm : Nat → T} {bx : Nat → Ob} {fo : List Ob}

/-! ### Guards -/

def GuardK (E : Env) (bad : List (Nat × Nat)) (os : List DOper) (fr : Fr) (fs : List Foot) (ks : List Kt) (Q : Ex → Fr → Prop) (dst : Option Nat) (op : DOp) (ad b : Bool) : T → Prop
  | .one (.v (.s (.bool b'))) => if b' = b then WR E bad (⟨dst, op, none, ad⟩ :: os) fr fs ks Q else WR E bad os (putT fr dst (.tup [])) (fs ++ [([], [])]) ks Q
  | .tup [] => WR E bad os (putT fr dst (.tup [])) (fs ++ [([], [])]) ks Q
  | _ => False

theorem wr_guard {dst : Option Nat} {op : DOp} {ad b : Bool} {t : Nat} : WR E bad (⟨dst, op, some (t, b), ad⟩ :: os) fr fs ks Q ↔ GuardK E bad os fr fs ks Q dst op ad b (fr.get (.t t)) := by
  have skip : (∀ call, step E.ext call ⟨dst, op, some (t, b), ad⟩ fr = some (putT fr dst (.tup []), [], [])) → (WR E bad (⟨dst, op, some (t, b), ad⟩ :: os) fr fs ks Q ↔ WR E bad os (putT fr dst (.tup [])) (fs ++ [([], [])]) ks Q) := by
    intro this
    constructor
    · rintro ⟨N, f2, fs', h1, hc, hg⟩
      simp only [run, this] at h1
      cases h2 : run E.ext (evF E N) os (putT fr dst (.tup [])) with
      | none => simp [h2] at h1
      | some q2 =>
        obtain ⟨f3, fs2⟩ := q2
        simp only [h2, Option.some.injEq, Prod.mk.injEq] at h1
        obtain ⟨rfl, rfl⟩ := h1
        exact ⟨N, f3, fs2, h2, by simpa using hc, hg⟩
    · intro h
      exact wr_step (N := 0) (this _) h
  by_cases hx : ∃ b', fr.get (.t t) = .one (.v (.s (.bool b')))
  · obtain ⟨b', hb⟩ := hx
    rw [hb]
    simp only [GuardK]
    by_cases hbb : b' = b
    · rw [if_pos hbb]
      have : ∀ call, step E.ext call ⟨dst, op, some (t, b), ad⟩ fr = step E.ext call ⟨dst, op, none, ad⟩ fr := by
        intro call
        simp only [step, wants, hb, hbb, beq_self_eq_true]
        rfl
      simp only [WR, run, this]
    · rw [if_neg hbb]
      refine skip fun call => ?_
      have e : (b' == b) = false := by simpa using hbb
      simp only [step, wants, hb, e]
  · by_cases ht : fr.get (.t t) = .tup []
    · rw [ht]
      simp only [GuardK]
      exact skip fun call => by simp only [step, wants, ht]
    · constructor
      · rintro ⟨N, f2, fs', h1, hc, hg⟩
        have : step E.ext (evF E N) ⟨dst, op, some (t, b), ad⟩ fr = none := by
          have hw : wants ⟨dst, op, some (t, b), ad⟩ fr = none := by
            simp only [wants]
            split
            · rename_i b' hb; exact absurd ⟨b', hb⟩ hx
            · rename_i hb; exact absurd hb ht
            · rfl
          simp only [step, hw]
        simp only [run, this] at h1
        cases h1
      · intro h
        unfold GuardK at h
        split at h
        · rename_i b' hb; exact absurd ⟨b', hb⟩ hx
        · rename_i hb; exact absurd hb ht
        · exact h.elim

theorem guardK_eq {dst : Option Nat} {op : DOp} {ad b b' : Bool} : GuardK E bad os fr fs ks Q dst op ad b (.one (.v (.s (.bool b')))) ↔ if b' = b then WR E bad (⟨dst, op, none, ad⟩ :: os) fr fs ks Q else WR E bad os (putT fr dst (.tup [])) (fs ++ [([], [])]) ks Q := Iff.rfl

theorem guardK_tt {dst : Option Nat} {op : DOp} {ad : Bool} : GuardK E bad os fr fs ks Q dst op ad true (.one (.v (.s (.bool true)))) ↔ WR E bad (⟨dst, op, none, ad⟩ :: os) fr fs ks Q := by simp [GuardK]
theorem guardK_ff {dst : Option Nat} {op : DOp} {ad : Bool} : GuardK E bad os fr fs ks Q dst op ad false (.one (.v (.s (.bool false)))) ↔ WR E bad (⟨dst, op, none, ad⟩ :: os) fr fs ks Q := by simp [GuardK]
theorem guardK_tf {dst : Option Nat} {op : DOp} {ad : Bool} : GuardK E bad os fr fs ks Q dst op ad true (.one (.v (.s (.bool false)))) ↔ WR E bad os (putT fr dst (.tup [])) (fs ++ [([], [])]) ks Q := by simp [GuardK]
theorem guardK_ft {dst : Option Nat} {op : DOp} {ad : Bool} : GuardK E bad os fr fs ks Q dst op ad false (.one (.v (.s (.bool true)))) ↔ WR E bad os (putT fr dst (.tup [])) (fs ++ [([], [])]) ks Q := by simp [GuardK]
theorem guardK_tup {dst : Option Nat} {op : DOp} {ad b : Bool} : GuardK E bad os fr fs ks Q dst op ad b (.tup []) ↔ WR E bad os (putT fr dst (.tup [])) (fs ++ [([], [])]) ks Q := Iff.rfl
theorem guardK_by {dst : Option Nat} {op : DOp} {ad b b' : Bool} (h1 : b' = true → GuardK E bad os fr fs ks Q dst op ad b (.one (.v (.s (.bool true))))) (h2 : b' = false → GuardK E bad os fr fs ks Q dst op ad b (.one (.v (.s (.bool false))))) : GuardK E bad os fr fs ks Q dst op ad b (.one (.v (.s (.bool b')))) := by
  cases b'
  · exact h2 rfl
  · exact h1 rfl

/-! ### Requests -/

def WrK (E : Env) (bad : List (Nat × Nat)) (os : List DOper) (fs : List Foot) (ks : List Kt) (Q : Ex → Fr → Prop) (dst : Option Nat) (acc : List Loc) (ws : List W) (t : T) : Option Fr → Prop
  | some fr' => WR E bad os (putT fr' dst t) (fs ++ [(acc, ws)]) ks Q
  | none => False

theorem wrK_some {dst : Option Nat} {acc : List Loc} {ws : List W} {t : T} : WrK E bad os fs ks Q dst acc ws t (some fr) ↔ WR E bad os (putT fr dst t) (fs ++ [(acc, ws)]) ks Q := Iff.rfl

def AskK (E : Env) (bad : List (Nat × Nat)) (os : List DOper) (fr : Fr) (fs : List Foot) (ks : List Kt) (Q : Ex → Fr → Prop) (dst : Option Nat) (acc : List Loc) (r : Req) : Prop :=
  match fr.ask r with
  | some (t, ws, ls) => WrK E bad os fs ks Q dst (acc ++ ls) ws t (fr.writes ws)
  | none => False

theorem wr_go {dst : Option Nat} {op : DOp} {ad : Bool} (h : isCall op = false) : WR E bad (⟨dst, op, none, ad⟩ :: os) (ofF n m tm bx fo) fs ks Q ↔ AskK E bad os (ofF n m tm bx fo) fs ks Q dst [] (act E.ext noC n ⟨dst, op, none, ad⟩ (ofF n m tm bx fo).get) := by
  rw [wr_cons h]
  simp only [step, wants, AskK, ofF_n, List.nil_append]
  cases h1 : (ofF n m tm bx fo).ask (act E.ext noC n ⟨dst, op, none, ad⟩ (ofF n m tm bx fo).get) with
  | none => exact Iff.rfl
  | some q =>
    obtain ⟨t, ws, ls⟩ := q
    simp only
    cases h2 : (ofF n m tm bx fo).writes ws <;> exact Iff.rfl

theorem askK_done {dst : Option Nat} {acc : List Loc} {t : T} : AskK E bad os fr fs ks Q dst acc (.done (some (t, []))) ↔ WR E bad os (putT fr dst t) (fs ++ [(acc, [])]) ks Q := by
  simp only [AskK, Fr.ask, Fr.writes, List.append_nil, WrK]

theorem askK_write {dst : Option Nat} {acc : List Loc} {t : T} {w : W} {ws : List W} : AskK E bad os fr fs ks Q dst acc (.done (some (t, w :: ws))) ↔ WrK E bad os fs ks Q dst acc (w :: ws) t (fr.writes (w :: ws)) := by
  simp only [AskK, Fr.ask, List.append_nil]

def LookK (E : Env) (bad : List (Nat × Nat)) (os : List DOper) (fr : Fr) (fs : List Foot) (ks : List Kt) (Q : Ex → Fr → Prop) (dst : Option Nat) (acc : List Loc) (k : Ob → Ans) : Option Ob → Prop
  | some o => AskK E bad os fr fs ks Q dst acc (.done (k o))
  | none => False

theorem lookK_some {dst : Option Nat} {acc : List Loc} {k : Ob → Ans} {o : Ob} : LookK E bad os fr fs ks Q dst acc k (some o) ↔ AskK E bad os fr fs ks Q dst acc (.done (k o)) := Iff.rfl

theorem askK_one {dst : Option Nat} {acc : List Loc} {l : Loc} {k : Ob → Ans} : AskK E bad os fr fs ks Q dst acc (.one l k) ↔ LookK E bad os fr fs ks Q dst (acc ++ [l]) k (fr.look l) := by
  simp only [AskK, Req.one, Fr.ask, Fr.looks]
  cases h : fr.look l with
  | none => exact Iff.rfl
  | some o =>
    simp only [LookK, AskK, Fr.ask]
    cases h2 : k o with
    | none => simp only [Fr.ask]
    | some q => obtain ⟨t, ws⟩ := q; simp only [Fr.ask, List.append_nil]

def LookK2 (E : Env) (bad : List (Nat × Nat)) (os : List DOper) (fr : Fr) (fs : List Foot) (ks : List Kt) (Q : Ex → Fr → Prop) (dst : Option Nat) (acc : List Loc) (k : Ob → Ob → Ans) : Option Ob → Option Ob → Prop
  | some o, some o' => AskK E bad os fr fs ks Q dst acc (.done (k o o'))
  | _, _ => False

theorem lookK2_some {dst : Option Nat} {acc : List Loc} {k : Ob → Ob → Ans} {o o' : Ob} : LookK2 E bad os fr fs ks Q dst acc k (some o) (some o') ↔ AskK E bad os fr fs ks Q dst acc (.done (k o o')) := Iff.rfl

theorem askK_two {dst : Option Nat} {acc : List Loc} {l l' : Loc} {k : Ob → Ob → Ans} : AskK E bad os fr fs ks Q dst acc (.two l l' k) ↔ LookK2 E bad os fr fs ks Q dst (acc ++ [l, l']) k (fr.look l) (fr.look l') := by
  simp only [AskK, Req.two, Fr.ask, Fr.looks]
  cases h : fr.look l with
  | none => simp only [LookK2]
  | some o =>
    cases h' : fr.look l' with
    | none => simp only [LookK2]
    | some o' =>
      simp only [LookK2, AskK, Fr.ask]
      cases h2 : k o o' with
      | none => simp only [Fr.ask]
      | some q => obtain ⟨t, ws⟩ := q; simp only [Fr.ask, List.append_nil]

/-! ### Each operation -/

section
variable {ext : Ext} {call : CallF} {n : Nat} {get : Opd → T} {g : Option (Nat × Bool)} {a : Bool} {d : Option Nat}

theorem act_mv {x : Opd} : act ext call n ⟨d, .mv x, g, a⟩ get = .done (some (get x, [])) := rfl

def pickA (x y : T) : T → Ans
  | .one (.v (.s (.bool t))) => some (if t then x else y, [])
  | _ => none
theorem act_pick {c x y : Opd} : act ext call n ⟨d, .pick c x y, g, a⟩ get = .done (pickA (get x) (get y) (get c)) := by
  simp only [act, pickA]; rfl
theorem pickA_eq {x y : T} {t : Bool} : pickA x y (.one (.v (.s (.bool t)))) = some (if t = true then x else y, []) := rfl

theorem pickA_t {x y : T} : pickA x y (.one (.v (.s (.bool true)))) = some (x, []) := rfl
theorem pickA_f {x y : T} : pickA x y (.one (.v (.s (.bool false)))) = some (y, []) := rfl

theorem act_alloc {ty : Nat} {zs : List C} {d : Nat} : act ext call n ⟨some d, .alloc ty zs, g, a⟩ get = .one (.home d) fun q => some (.one (.ref (.loc d (q.g + 1)) 0), [.setb d ⟨q.g + 1, ty, zs⟩]) := rfl

def boxA (d ty g : Nat) : Option (List C) → Ans
  | none => none
  | some cs => some (.one (.ref (.loc d (g + 1)) 0), [.setb d ⟨g + 1, ty, cs⟩])
theorem act_box {ty : Nat} {x : Opd} {d : Nat} : act ext call n ⟨some d, .box ty x, g, a⟩ get = .one (.home d) fun q => boxA d ty q.g (get x).cellsO := rfl
theorem boxA_some {d ty g : Nat} {cs : List C} : boxA d ty g (some cs) = some (.one (.ref (.loc d (g + 1)) 0), [.setb d ⟨g + 1, ty, cs⟩]) := rfl

def buildA (zs : List C) : Option (List (Nat × Nat × List C)) → Ans
  | none => none
  | some ps => (fillC zs ps).map fun cs => (.agg cs, [])
theorem act_build {zs : List C} {parts : List (Nat × Nat × Opd)} : act ext call n ⟨d, .build zs parts, g, a⟩ get = .done (buildA zs (partsC get parts)) := by
  simp only [act, buildA]; cases partsC get parts <;> rfl
theorem buildA_some {zs : List C} {ps : List (Nat × Nat × List C)} : buildA zs (some ps) = (fillC zs ps).map fun cs => (.agg cs, []) := rfl

theorem partsC_nil : partsC get [] = some [] := rfl
def partA (off sz : Nat) : Option (List C) → Option (List (Nat × Nat × List C)) → Option (List (Nat × Nat × List C))
  | some cs, some ps => some ((off, sz, cs) :: ps)
  | _, _ => none
theorem partsC_cons {off sz : Nat} {x : Opd} {r : List (Nat × Nat × Opd)} : partsC get ((off, sz, x) :: r) = partA off sz (get x).cellsO (partsC get r) := by
  simp only [partsC, partA]; rfl
theorem partA_some {off sz : Nat} {cs : List C} {ps : List (Nat × Nat × List C)} : partA off sz (some cs) (some ps) = some ((off, sz, cs) :: ps) := rfl

theorem fillC_nil {cells : List C} : fillC cells [] = some cells := rfl
theorem fillC_cons {cells cs : List C} {off sz : Nat} {rest : List (Nat × Nat × List C)} : fillC cells ((off, sz, cs) :: rest) = if cs.length = sz ∧ off + sz ≤ cells.length then fillC (splice cells off cs) rest else none := rfl

def bslA (d : Option Nat) (ty sz : Nat) (own : Bool) : Option (List (List V)) → Req
  | none => .done none
  | some es => if own then match d with
      | some d => .one (.home d) fun q => some (.one (.osl (.loc d (q.g + 1)) sz 0 es.length), [.setb d ⟨q.g + 1, ty, es.flatten.map .v⟩])
      | none => .done none
    else .done (some (bslOut es, []))
theorem act_bsl {ty sz : Nat} {own : Bool} {parts : List Opd} : act ext call n ⟨d, .bsl ty sz own parts, g, a⟩ get = bslA d ty sz own (rowsV sz (parts.map get)) := by
  simp only [act, bslA]; rfl
theorem bslA_false {ty sz : Nat} {es : List (List V)} : bslA d ty sz false (some es) = .done (some (bslOut es, [])) := rfl
theorem bslOut_cons {e : List V} {es : List (List V)} : bslOut (e :: es) = .one (.v (.sl (e :: es))) := rfl
theorem bslOut_nil : bslOut [] = .one .esl := rfl
theorem bslA_true {ty sz d : Nat} {es : List (List V)} : bslA (some d) ty sz true (some es) = .one (.home d) fun q => some (.one (.osl (.loc d (q.g + 1)) sz 0 es.length), [.setb d ⟨q.g + 1, ty, es.flatten.map .v⟩]) := rfl
theorem rowsV_nil {sz : Nat} : rowsV sz [] = some [] := rfl
def rowA (sz : Nat) : Option (List V) → Option (List (List V)) → Option (List (List V))
  | some x, some xs => if x.length = sz then some (x :: xs) else none
  | _, _ => none
theorem rowsV_cons {sz : Nat} {t : T} {ts : List T} : rowsV sz (t :: ts) = rowA sz t.toVs (rowsV sz ts) := by
  simp only [rowsV, rowA]; rfl
theorem rowA_some {sz : Nat} {x : List V} {xs : List (List V)} : rowA sz (some x) (some xs) = if x.length = sz then some (x :: xs) else none := rfl

def loadA (sz : Option Nat) : T → Req
  | .one (.v (.pt cs)) => .done ((loadC sz (cs.map .v) 0).map fun t => (t, []))
  | .one (.ref k off) => .one k.at fun q => if k.fits q.g then (loadC sz q.cs off).map fun t => (t, []) else none
  | _ => .done none
theorem act_load {sz : Option Nat} {x : Opd} : act ext call n ⟨d, .load sz x, g, a⟩ get = loadA sz (get x) := by
  simp only [act, loadA]; rfl
theorem loadA_pt {sz : Option Nat} {cs : List V} : loadA sz (.one (.v (.pt cs))) = .done ((loadC sz (cs.map .v) 0).map fun t => (t, [])) := rfl
theorem loadA_ref {sz : Option Nat} {k : Key} {off : Nat} : loadA sz (.one (.ref k off)) = .one k.at fun q => if k.fits q.g then (loadC sz q.cs off).map fun t => (t, []) else none := rfl
theorem loadC_none {cs : List C} {off : Nat} : loadC none cs off = (cs[off]?).map .one := rfl
theorem loadC_some {k : Nat} {cs : List C} {off : Nat} : loadC (some k) cs off = if off + k ≤ cs.length then some (.agg ((cs.drop off).take k)) else none := rfl

def storeA (sz : Nat) : T → Option (List C) → Req
  | .one (.ref k off), some cs => .one k.at fun q => if k.fits q.g ∧ cs.length = sz ∧ off + sz ≤ q.cs.length then some (.one .dead, [.cells k.at off cs]) else none
  | _, _ => .done none
theorem act_store {sz : Nat} {x y : Opd} : act ext call n ⟨d, .store sz x y, g, a⟩ get = storeA sz (get x) (get y).cellsO := by
  simp only [act, storeA]; rfl
theorem storeA_ref {sz : Nat} {k : Key} {off : Nat} {cs : List C} : storeA sz (.one (.ref k off)) (some cs) = .one k.at fun q => if k.fits q.g ∧ cs.length = sz ∧ off + sz ≤ q.cs.length then some (.one .dead, [.cells k.at off cs]) else none := rfl

def nilckA : T → Ans
  | .one (.v (.pt cs)) => some (.one (.v (.pt cs)), [])
  | .one (.ref k off) => some (.one (.ref k off), [])
  | _ => none
theorem act_nilck {x : Opd} : act ext call n ⟨d, .nilck x, g, a⟩ get = .done (nilckA (get x)) := by
  simp only [act, nilckA]; rfl
theorem nilckA_pt {cs : List V} : nilckA (.one (.v (.pt cs))) = some (.one (.v (.pt cs)), []) := rfl
theorem nilckA_ref {k : Key} {off : Nat} : nilckA (.one (.ref k off)) = some (.one (.ref k off), []) := rfl

theorem act_bin {op : BinOp} {x y : Opd} : act ext call n ⟨d, .bin op x y, g, a⟩ get = .done ((bin op (get x) (get y)).map fun t => (t, [])) := rfl
theorem act_un {op : UnOp} {x : Opd} : act ext call n ⟨d, .un op x, g, a⟩ get = .done ((un op (get x)).map fun t => (t, [])) := rfl
theorem act_conv {k : Cv} {x : Opd} : act ext call n ⟨d, .conv k x, g, a⟩ get = .done ((conv k (get x)).map fun t => (t, [])) := rfl
theorem act_pureBi {b : Builtin} {args : List Opd} : act ext call n ⟨d, .pureBi b args, g, a⟩ get = .done ((pureBi b (args.map get)).map fun t => (t, [])) := rfl

def beqA (neq : Bool) : T → T → Ans
  | .one (.v (.s (.bool a))), .one (.v (.s (.bool b))) => some (tB (if neq then !(a == b) else a == b), [])
  | _, _ => none
theorem act_beq {neq : Bool} {x y : Opd} : act ext call n ⟨d, .beq neq x y, g, a⟩ get = .done (beqA neq (get x) (get y)) := by
  simp only [act, beqA]; rfl
theorem beqA_eq {neq b c : Bool} : beqA neq (.one (.v (.s (.bool b)))) (.one (.v (.s (.bool c)))) = some (tB (if neq then !(b == c) else b == c), []) := rfl

def peqA (neq : Bool) : T → T → Req
  | .one (.v (.s (.pointer none))), .one (.v (.s (.pointer none))) => .done (some (tB (!neq), []))
  | .one (.v (.pt _)), .one (.v (.s (.pointer none))) => .done (some (tB neq, []))
  | .one (.v (.s (.pointer none))), .one (.v (.pt _)) => .done (some (tB neq, []))
  | .one (.ref _ _), .one (.v (.s (.pointer none))) => .done (some (tB neq, []))
  | .one (.v (.s (.pointer none))), .one (.ref _ _) => .done (some (tB neq, []))
  | .one (.ref k o), .one (.ref k' o') => if k = k' ∧ o = o' then .one k.at fun q => if k.fits q.g && !q.cs.isEmpty then some (tB (!neq), []) else none else .done none
  | _, _ => .done none
theorem act_peq {neq : Bool} {x y : Opd} : act ext call n ⟨d, .peq neq x y, g, a⟩ get = peqA neq (get x) (get y) := by
  simp only [act, peqA]; rfl

def mkfnA (f : Fn) : Option (List C) → Option (List C) → Ans
  | some x, some y => some (.one (.fn f x y), [])
  | _, _ => none
theorem act_mkfn {f : Fn} {first caps : List Opd} : act ext call n ⟨d, .mkfn f first caps, g, a⟩ get = .done (mkfnA f (ones (first.map get)) (ones (caps.map get))) := by
  simp only [act, mkfnA]; rfl
theorem mkfnA_some {f : Fn} {x y : List C} : mkfnA f (some x) (some y) = some (.one (.fn f x y), []) := rfl

def sliceSA : Option (Option Int) → Option (Option Int) → T → Ans
  | some l, some h, .one (.v (.s (.string s))) =>
      if 0 ≤ l.getD 0 ∧ l.getD 0 ≤ h.getD s.size ∧ h.getD s.size ≤ s.size then some (tS (s.extract (l.getD 0).toNat (h.getD s.size).toNat), []) else none
  | _, _, _ => none
theorem act_slices {sz : Nat} {x : Opd} {lo hi mx : Option Opd} : act ext call n ⟨d, .slice true sz x lo hi mx, g, a⟩ get = .done (sliceSA (optInt (lo.map get)) (optInt (hi.map get)) (get x)) := by
  simp only [act, sliceSA]; rfl
theorem sliceSA_eq {l h : Option Int} {s : ByteArray} : sliceSA (some l) (some h) (.one (.v (.s (.string s)))) = if 0 ≤ l.getD 0 ∧ l.getD 0 ≤ h.getD s.size ∧ h.getD s.size ≤ s.size then some (tS (s.extract (l.getD 0).toNat (h.getD s.size).toNat), []) else none := rfl

/-- Do all the elements have so many cells? -/
def allSz (sz : Nat) (es : List (List V)) : Bool := es.all (·.length == sz)

def sliceEA (sz : Nat) (l h : Option Int) : Option (List (List V)) → Ans
  | some es => if allSz sz es then (sliceV es l h).map fun r => (.one (.v (.sl r)), []) else none
  | none => none
def sliceLA (sz : Nat) : Option (Option Int) → Option (Option Int) → Option (Option Int) → T → Ans
  | some l, some h, some none, .one (.osl k sz' off len) =>
      if 0 ≤ l.getD 0 ∧ l.getD 0 ≤ h.getD len ∧ h.getD len ≤ len ∧ sz' = sz then some (.one (.osl k sz (off + (l.getD 0).toNat * sz) ((h.getD len).toNat - (l.getD 0).toNat)), []) else none
  | some l, some h, some none, .one c => sliceEA sz l h c.elems
  | _, _, _, _ => none
theorem act_slicel {sz : Nat} {x : Opd} {lo hi mx : Option Opd} : act ext call n ⟨d, .slice false sz x lo hi mx, g, a⟩ get = .done (sliceLA sz (optInt (lo.map get)) (optInt (hi.map get)) (optInt (mx.map get)) (get x)) := by
  simp only [act]
  cases optInt (lo.map get) with
  | none => simp only [sliceLA]
  | some l =>
    cases optInt (hi.map get) with
    | none => simp only [sliceLA]
    | some h =>
      cases optInt (mx.map get) with
      | none => simp only [sliceLA]
      | some q =>
        cases q with
        | some q => simp only [sliceLA]
        | none =>
          simp only
          cases get x with
          | one c =>
            cases c with
            | osl => simp only [sliceLA]
            | _ => simp only [sliceLA, C.elems, sliceEA, allSz]
                   try rfl
          | _ => simp only [sliceLA]

def faddrA (off : Nat) : T → Ans
  | .one (.v (.pt cs)) => if off ≤ cs.length then some (.one (.v (.pt (cs.drop off))), []) else none
  | .one (.ref k o) => some (.one (.ref k (o + off)), [])
  | _ => none
theorem act_faddr {off : Nat} {x : Opd} : act ext call n ⟨d, .faddr off x, g, a⟩ get = .done (faddrA off (get x)) := by
  simp only [act, faddrA]; rfl
theorem faddrA_pt {off : Nat} {cs : List V} : faddrA off (.one (.v (.pt cs))) = if off ≤ cs.length then some (.one (.v (.pt (cs.drop off))), []) else none := rfl
theorem faddrA_ref {off o : Nat} {k : Key} : faddrA off (.one (.ref k o)) = some (.one (.ref k (o + off)), []) := rfl

/-- An element's cells, if there are as many as there must be. -/
def elemA (sz : Nat) (n : Int) : Option (List (List V)) → Ans
  | some es => if 0 ≤ n then elemB sz es[n.toNat]? else none
  | none => none
where elemB (sz : Nat) : Option (List V) → Ans
  | some e => if e.length = sz then some (.one (.v (.pt e)), []) else none
  | none => none
def iaddrA (sz : Nat) : T → Option Int → Ans
  | .one (.osl k sz' off len), some n => if 0 ≤ n ∧ n < len ∧ sz' = sz then some (.one (.ref k (off + n.toNat * sz)), []) else none
  | .one c, some n => elemA sz n c.elems
  | _, _ => none
theorem act_iaddr {sz : Nat} {x i : Opd} : act ext call n ⟨d, .iaddr sz x i, g, a⟩ get = .done (iaddrA sz (get x) (get i).int?) := by
  simp only [act]
  cases (get i).int? with
  | none =>
    cases get x with
    | one c => cases c <;> simp only [iaddrA]
    | _ => simp only [iaddrA]
  | some k =>
    cases get x with
    | one c =>
      cases c with
      | osl => simp only [iaddrA]
      | _ =>
        simp only [iaddrA, C.elems]
        first
          | rfl
          | (simp only [elemA, elemA.elemB])
    | _ => simp only [iaddrA]

def indexB : Option UInt8 → Ans
  | some b => some (tInt .u8 b.toNat, [])
  | none => none
def indexA : T → Option Int → Ans
  | .one (.v (.s (.string s))), some n => if 0 ≤ n then indexB s[n.toNat]? else none
  | _, _ => none
theorem act_index {x i : Opd} : act ext call n ⟨d, .index x i, g, a⟩ get = .done (indexA (get x) (get i).int?) := by
  simp only [act, indexA]; rfl
theorem indexA_eq {s : ByteArray} {n : Int} : indexA (.one (.v (.s (.string s)))) (some n) = if 0 ≤ n then indexB s[n.toNat]? else none := rfl
theorem indexB_some {b : UInt8} : indexB (some b) = some (tInt .u8 b.toNat, []) := rfl

def extractA (i : Nat) : T → Ans
  | .tup ts => (ts[i]?).map fun t => (t, [])
  | _ => none
theorem act_extract {x : Opd} {i : Nat} : act ext call n ⟨d, .extract x i, g, a⟩ get = .done (extractA i (get x)) := by
  simp only [act, extractA]; rfl
theorem extractA_tup {i : Nat} {ts : List T} : extractA i (.tup ts) = (ts[i]?).map fun t => (t, []) := rfl

def lenSA : T → Ans
  | .one (.v (.s (.string s))) => some (tI s.size, [])
  | _ => none
theorem act_lens {x : Opd} : act ext call n ⟨d, .len true x, g, a⟩ get = .done (lenSA (get x)) := by
  simp only [act, lenSA]; rfl
theorem lenSA_eq {s : ByteArray} : lenSA (.one (.v (.s (.string s)))) = some (tI s.size, []) := rfl
def lenEA : Option (List (List V)) → Ans
  | some es => some (tI es.length, [])
  | none => none
def lenLA : T → Ans
  | .one (.osl _ _ _ len) => some (tI len, [])
  | .one c => lenEA c.elems
  | _ => none
theorem act_lenl {x : Opd} : act ext call n ⟨d, .len false x, g, a⟩ get = .done (lenLA (get x)) := by
  simp only [act]
  cases get x with
  | one c => cases c <;> simp only [lenLA, C.elems, lenEA] <;> try rfl
  | _ => simp only [lenLA]

end

end Go.Dev.Wk

/- The calculus: appends, and the set of equations that runs it. -/
namespace Go.Dev.Wk
open Go Go.Dev

section
variable {ext : Ext} {call : CallF} {n : Nat} {get : Opd → T} {g : Option (Nat × Bool)} {a : Bool} {d : Option Nat}

def appEsl (d ty sz bytes : Nat) (own : Bool) (ys : List (List V)) : Req :=
  if okBytes ys.length bytes then .one (.home d) fun q =>
    if own then some (.one (.osl (.loc d (q.g + 1)) sz 0 ys.length), [.setb d ⟨q.g + 1, 0, ys.flatten.map .v⟩])
    else some (.one (.lin d (q.g + 1) ty ys), [.setb d ⟨q.g + 1, 0, []⟩])
  else .done none

def appLin (d ty sz bytes h g ty' : Nat) (es ys : List (List V)) : Req :=
  if ty' = ty ∧ allSz sz es ∧ okBytes (es.length + ys.length) bytes then
    (if h = d then .one (.home d) fun q => if q.g = g then some (.one (.lin d (q.g + 1) ty (es ++ ys)), [.setb d ⟨q.g + 1, 0, []⟩]) else none
    else .two (.home h) (.home d) fun q e => if q.g = g then some (.one (.lin d (e.g + 1) ty (es ++ ys)), [.setb h ⟨q.g + 1, 0, []⟩, .setb d ⟨e.g + 1, 0, []⟩]) else none)
    else .done none

def appB (d : Option Nat) (ty sz bytes : Nat) (own : Bool) (ys : List (List V)) : T → Req
  | .one .esl => match d with
    | some d => if ys.isEmpty then .done (some (.one .esl, [])) else appEsl d ty sz bytes own ys
    | none => .done none
  | .one (.lin h g ty' es) => match d with
    | some d => appLin d ty sz bytes h g ty' es ys
    | none => .done none
  | .one (.osl (.loc h g) sz' 0 len) => match d with
    | some _ => if len ≠ 0 ∧ okBytes (len + ys.length) bytes then
      .one (.home h) fun q => if q.g = g ∧ sz' = sz ∧ q.cs.length = len * sz then some (.one (.osl (.loc h (q.g + 1)) sz 0 (len + ys.length)), [.setb h ⟨q.g + 1, 0, q.cs ++ ys.flatten.map .v⟩]) else none
      else .done none
    | none => .done none
  | _ => .done none

def appA (d : Option Nat) (ty sz bytes : Nat) (own : Bool) (x : T) : Option (List (List V)) → Req
  | none => .done none
  | some ys => if allSz sz ys then appB d ty sz bytes own ys x else .done none

theorem act_append {ty sz bytes : Nat} {own : Bool} {x y : Opd} : act ext call n ⟨d, .append ty sz bytes own x y, g, a⟩ get = appA d ty sz bytes own (get x) (get y).elems := by
  simp only [act]
  cases (get y).elems with
  | none => rfl
  | some ys =>
    simp only [appA]
    by_cases hz : (ys.all fun x => x.length == sz) = true
    · rw [if_pos hz, if_pos (show allSz sz ys = true from hz)]
      cases get x with
      | one c =>
        cases c with
        | esl => cases d <;> rfl
        | lin => cases d <;> rfl
        | osl k s o l =>
          cases k with
          | loc h g => cases o <;> cases d <;> rfl
          | fo i => cases d <;> rfl
        | _ => cases d <;> rfl
      | _ => cases d <;> rfl
    · rw [if_neg hz, if_neg (show ¬ allSz sz ys = true from hz)]

theorem appA_some {ty sz bytes : Nat} {own : Bool} {x : T} {ys : List (List V)} : appA d ty sz bytes own x (some ys) = if allSz sz ys then appB d ty sz bytes own ys x else .done none := rfl
theorem appB_esl {ty sz bytes d : Nat} {own : Bool} {ys : List (List V)} : appB (some d) ty sz bytes own ys (.one .esl) = if ys.isEmpty then .done (some (.one .esl, [])) else appEsl d ty sz bytes own ys := rfl
theorem appB_lin {ty sz bytes d h g ty' : Nat} {own : Bool} {es ys : List (List V)} : appB (some d) ty sz bytes own ys (.one (.lin h g ty' es)) = appLin d ty sz bytes h g ty' es ys := rfl
theorem appB_osl {ty sz bytes d h g sz' len : Nat} {own : Bool} {ys : List (List V)} : appB (some d) ty sz bytes own ys (.one (.osl (.loc h g) sz' 0 len)) = if len ≠ 0 ∧ okBytes (len + ys.length) bytes then
      .one (.home h) fun q => if q.g = g ∧ sz' = sz ∧ q.cs.length = len * sz then some (.one (.osl (.loc h (q.g + 1)) sz 0 (len + ys.length)), [.setb h ⟨q.g + 1, 0, q.cs ++ ys.flatten.map .v⟩]) else none
      else .done none := rfl

def clearA (zs : List C) : T → Req
  | .one (.osl k sz off len) => .one k.at fun q => if k.fits q.g ∧ zs.length = sz ∧ off + len * sz ≤ q.cs.length then some (.one .dead, [.cells k.at off (List.replicate len zs).flatten]) else none
  | _ => .done none
theorem act_clear {zs : List C} {x : Opd} : act ext call n ⟨d, .clear zs x, g, a⟩ get = clearA zs (get x) := by
  simp only [act, clearA]; rfl
theorem clearA_osl {zs : List C} {k : Key} {sz off len : Nat} : clearA zs (.one (.osl k sz off len)) = .one k.at fun q => if k.fits q.g ∧ zs.length = sz ∧ off + len * sz ≤ q.cs.length then some (.one .dead, [.cells k.at off (List.replicate len zs).flatten]) else none := rfl

def pubA (sz : Nat) : T → Req
  | .one (.osl (.loc h g) sz' 0 len) => .one (.home h) fun q => if q.g = g ∧ sz' = sz ∧ q.cs.length = len * sz ∧ len ≠ 0 ∧ q.ty ≠ 0 ∧ sz ≠ 0 then (toVs q.cs).map fun xs => (.one (.v (.sl (chunk sz len xs))), [.setb h ⟨q.g + 1, 0, []⟩]) else none
  | _ => .done none
theorem act_pub {sz : Nat} {x : Opd} : act ext call n ⟨d, .pub sz x, g, a⟩ get = pubA sz (get x) := by
  simp only [act, pubA]; rfl
theorem pubA_osl {sz h g sz' len : Nat} : pubA sz (.one (.osl (.loc h g) sz' 0 len)) = .one (.home h) fun q => if q.g = g ∧ sz' = sz ∧ q.cs.length = len * sz ∧ len ≠ 0 ∧ q.ty ≠ 0 ∧ sz ≠ 0 then (toVs q.cs).map fun xs => (.one (.v (.sl (chunk sz len xs))), [.setb h ⟨q.g + 1, 0, []⟩]) else none := rfl

def sdataA : T → Req
  | .one (.lin h g ty es) => .one (.home h) fun q => if q.g = g then some (.one (.sd h g ty es), []) else none
  | _ => .done none
theorem act_sdata {x : Opd} : act ext call n ⟨d, .sdata x, g, a⟩ get = sdataA (get x) := by
  simp only [act, sdataA]; rfl
theorem sdataA_lin {h g ty : Nat} {es : List (List V)} : sdataA (.one (.lin h g ty es)) = .one (.home h) fun q => if q.g = g then some (.one (.sd h g ty es), []) else none := rfl

def ustrA (ty : Nat) : T → T → Req
  | .one (.sd h g ty' es), .one (.v (.s (.int .i64 n))) => .one (.home h) fun q => if q.g = g ∧ ty' = ty ∧ n = es.length ∧ n ≤ 9223372036854775807 ∧ allSz 1 es then (bytesV es.flatten).map fun bs => (tS ⟨bs.toArray⟩, []) else none
  | _, _ => .done none
theorem act_ustr {ty : Nat} {x y : Opd} : act ext call n ⟨d, .ustr ty x y, g, a⟩ get = ustrA ty (get x) (get y) := by
  simp only [act, ustrA, allSz]; rfl
theorem ustrA_sd {ty h g ty' : Nat} {es : List (List V)} {n : Int} : ustrA ty (.one (.sd h g ty' es)) (.one (.v (.s (.int .i64 n)))) = .one (.home h) fun q => if q.g = g ∧ ty' = ty ∧ n = es.length ∧ n ≤ 9223372036854775807 ∧ allSz 1 es then (bytesV es.flatten).map fun bs => (tS ⟨bs.toArray⟩, []) else none := rfl

def pcastA (al : List (Nat × Nat × Nat)) : T → Req
  | .one (.ref k off) => .one k.at fun q => if k.fits q.g ∧ (q.ty, q.cs.length, off) ∈ al then some (.one (.ref k off), []) else none
  | _ => .done none
theorem act_pcast {al : List (Nat × Nat × Nat)} {x : Opd} : act ext call n ⟨d, .pcast al x, g, a⟩ get = pcastA al (get x) := by
  simp only [act, pcastA]; rfl
theorem pcastA_ref {al : List (Nat × Nat × Nat)} {k : Key} {off : Nat} : pcastA al (.one (.ref k off)) = .one k.at fun q => if k.fits q.g ∧ (q.ty, q.cs.length, off) ∈ al then some (.one (.ref k off), []) else none := rfl

end

/-! ### Scalars -/

section
variable (a b : Int) (x y : Bool) (s t : ByteArray)
theorem bin_add : bin .add (.one (.v (.s (.int .i64 a)))) (.one (.v (.s (.int .i64 b)))) = some (.one (.v (.s (.int .i64 (IntKind.i64.wrap (a + b)))))) := rfl
theorem bin_sub : bin .sub (.one (.v (.s (.int .i64 a)))) (.one (.v (.s (.int .i64 b)))) = some (.one (.v (.s (.int .i64 (IntKind.i64.wrap (a - b)))))) := rfl
theorem bin_mul : bin .mul (.one (.v (.s (.int .i64 a)))) (.one (.v (.s (.int .i64 b)))) = some (.one (.v (.s (.int .i64 (IntKind.i64.wrap (a * b)))))) := rfl
theorem bin_lss : bin .lss (.one (.v (.s (.int .i64 a)))) (.one (.v (.s (.int .i64 b)))) = some (.one (.v (.s (.bool (decide (a < b)))))) := rfl
theorem bin_leq : bin .leq (.one (.v (.s (.int .i64 a)))) (.one (.v (.s (.int .i64 b)))) = some (.one (.v (.s (.bool (decide (a ≤ b)))))) := rfl
theorem bin_gtr : bin .gtr (.one (.v (.s (.int .i64 a)))) (.one (.v (.s (.int .i64 b)))) = some (.one (.v (.s (.bool (decide (b < a)))))) := rfl
theorem bin_geq : bin .geq (.one (.v (.s (.int .i64 a)))) (.one (.v (.s (.int .i64 b)))) = some (.one (.v (.s (.bool (decide (b ≤ a)))))) := rfl
theorem bin_eql : bin .eql (.one (.v (.s (.int .i64 a)))) (.one (.v (.s (.int .i64 b)))) = some (.one (.v (.s (.bool (decide (a = b)))))) := rfl
theorem bin_neq : bin .neq (.one (.v (.s (.int .i64 a)))) (.one (.v (.s (.int .i64 b)))) = some (.one (.v (.s (.bool (!decide (a = b)))))) := rfl
theorem un_not : un .not (.one (.v (.s (.bool x)))) = some (.one (.v (.s (.bool (!x))))) := rfl
end

end Go.Dev.Wk
