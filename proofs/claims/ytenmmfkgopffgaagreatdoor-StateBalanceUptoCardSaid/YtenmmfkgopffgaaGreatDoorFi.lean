/- The order drawn: the proof. -/
import Derived.Test.YtenmmfkgopffgaaGreatDoorFh
set_option linter.unusedVariables false
set_option linter.unusedSimpArgs false
namespace Go.Proofs.YtenmmfkgopffgaaGreatDoor
open Go

def er (D : List Nat) (e : Env) : Env := e.filter (fun p => !D.contains p.1)
theorem lk_er (D : List Nat) (t : Nat) : ∀ e : Env, lk (er D e) t = if t ∈ D then none else lk e t
  | [] => by simp [er, lk]
  | (s, v) :: e => by
    have ih := lk_er D t e
    unfold er at ih ⊢
    by_cases hs : s ∈ D
    · rw [List.filter_cons_of_neg (by simp [hs]), ih]
      by_cases ht : t ∈ D
      · simp [ht]
      · simp only [ht, if_false]
        rw [lk_cons_ne (fun q => ht (by rw [← q]; exact hs))]
    · rw [List.filter_cons_of_pos (by simp [hs])]
      by_cases hst : s = t
      · subst hst; simp [lk_cons_same, hs]
      · rw [lk_cons_ne hst, lk_cons_ne hst, ih]
theorem FitsC.sub {n : Nat} {σ : List (Nat × Gd)} {e1 e2 : Env} {a : Act} (f : FitsC n σ e1 a) (h1 : ∀ t v, lk e2 t = some v → lk e1 t = some v) (h2 : ∀ t v, lk e2 t = some v → ∀ p ∈ csOf σ t, lk e2 p.1 = lk e1 p.1) : FitsC n σ e2 a := by
  have hc : ∀ t v, lk e2 t = some v → (CondOK e2 (csOf σ t) ↔ CondOK e1 (csOf σ t)) := fun t v hv => by
    constructor <;> (intro c p hp; have := c p hp; have := h2 t v hv p hp; simp_all)
  exact ⟨f.defers, f.size, fun t v hv c => f.get t v (h1 t v hv) ((hc t v hv).1 c), fun t v hv c => f.no t v (h1 t v hv) (fun q => c ((hc t v hv).2 q))⟩
theorem FitsC.same {n : Nat} {σ : List (Nat × Gd)} {e1 e2 : Env} {a : Act} (f : FitsC n σ e1 a) (h : ∀ t, lk e2 t = lk e1 t) : FitsC n σ e2 a :=
  f.sub (fun t v hv => by rw [← h]; exact hv) (fun t v hv p hp => h p.1)

theorem nodup_inj {α β : Type} {g : α → β} : ∀ {l : List α}, (l.map g).Nodup → ∀ {x y : α}, x ∈ l → y ∈ l → g x = g y → x = y
  | [], _, x, y, hx, _, _ => by cases hx
  | z :: l, h, x, y, hx, hy, he => by
    simp only [List.map_cons, List.nodup_cons] at h
    rcases List.mem_cons.1 hx with hx1 | hx1
    · rcases List.mem_cons.1 hy with hy1 | hy1
      · rw [hx1, hy1]
      · exact absurd (List.mem_map.2 ⟨y, hy1, by rw [← he, hx1]⟩) h.1
    · rcases List.mem_cons.1 hy with hy1 | hy1
      · exact absurd (List.mem_map.2 ⟨x, hx1, by rw [he, hy1]⟩) h.1
      · exact nodup_inj h.2 hx1 hy1 he
theorem nodup_filter {α β : Type} (g : α → β) {f : α → Bool} {l : List α} (h : (l.map g).Nodup) : ((l.filter f).map g).Nodup :=
  h.sublist (List.filter_sublist.map g)

theorem mem_mv {α : Type} {x p : α} {A B : List α} (h : p ∈ x :: A ++ B) : p ∈ A ++ x :: B := by grind
theorem mem_md {α : Type} {x p : α} {A B : List α} (h : p ∈ A ++ B) : p ∈ A ++ x :: B := by grind
theorem mem_un {α : Type} {x p : α} {A B : List α} (h : p ∈ A ++ x :: B) (hn : p ≠ x) : p ∈ A ++ B := by grind
theorem nodup_mid {α : Type} {x : α} {A B : List α} (h : (A ++ x :: B).Nodup) : (x :: (A ++ B)).Nodup := List.perm_middle.nodup_iff.1 h
abbrev PreL := List ((Nat × I0) × Nat × Value)
/-- a box that the machine has laid ahead of the walk -/
structure EA where
  j : Nat
  d : Nat
  nm : Nat
  T : TypeId
  z : List Value
  b : Nat
def EA.item (q : EA) : Nat × I0 := (q.j, .a (some q.d) (.box q.nm q.T q.z))
def EA.hp (q : EA) : HP := Box.hp ⟨q.nm, q.b, q.z, q.T⟩
def EA.ptr (q : EA) : Value := .pointer (some ⟨q.b, 0, none⟩)
def eaE (ea : List EA) : Env := ea.map fun q => (q.d, q.ptr)
theorem lk_app {e1 e2 : Env} {t : Nat} : lk (e1 ++ e2) t = (match lk e1 t with | some v => some v | none => lk e2 t) := by
  induction e1 with
  | nil => rfl
  | cons p r ih =>
    obtain ⟨s, v⟩ := p
    by_cases hst : s = t
    · subst hst; simp [lk_cons_same]
    · rw [List.cons_append, lk_cons_ne hst, lk_cons_ne hst, ih]
theorem lk_eaE_none {ea : List EA} {t : Nat} (h : ∀ q ∈ ea, q.d ≠ t) : lk (eaE ea) t = none := by
  induction ea with
  | nil => rfl
  | cons q r ih =>
    show lk ((q.d, q.ptr) :: eaE r) t = none
    rw [lk_cons_ne (h q (by simp))]; exact ih fun p hp => h p (by simp [hp])
theorem lk_eaE_some {ea : List EA} {q : EA} (hq : q ∈ ea) (hn : (ea.map EA.d).Nodup) : lk (eaE ea) q.d = some q.ptr := by
  induction ea with
  | nil => cases hq
  | cons p r ih =>
    show lk ((p.d, p.ptr) :: eaE r) q.d = _
    simp only [List.map_cons, List.nodup_cons] at hn
    rcases List.mem_cons.1 hq with rfl | hq
    · exact lk_cons_same _ _ _
    · rw [lk_cons_ne (fun e => hn.1 (List.mem_map.2 ⟨q, hq, e.symm⟩))]; exact ih hq hn.2

/-- not yet done by the machine -/
def Un (pre : PreL) (rest : List (Nat × I0)) (ea : List EA) (p : Nat × I0) : Prop := p ∈ pre.map (·.1) ∨ (p ∈ rest ∧ ∀ q ∈ ea, q.j ≠ p.1)

structure DI (P : Program) (n : Nat) (ops : Array Oper) (σF : List (Nat × Gd)) (cl : List (List Nat)) (L : List (Nat × I0)) (K : Pd) (cx : Ctx) (listed : Array Bool) (pre : PreL) (rest : List (Nat × I0)) (ea : List EA) (σ : List (Nat × Gd)) (gs : List Nat)
    (e : Env) (bx : List Box) (own : List HP) (u : Mem) (a : Act) (w : World) : Prop where
  size : listed.size = ops.size
  lst : ∀ j, j < ops.size → (listed.getD j true = false ↔ ∃ p, Un pre rest ea p ∧ p.1 = j)
  down : ∀ j i, j < ops.size → listed.getD j true = true → i ∈ cl.getD j [] → listed.getD i true = true
  inL : ∀ p ∈ pre.map (·.1) ++ rest, p ∈ L
  prs : ∀ p ∈ pre, ∀ q ∈ rest, pairOK cl L p.1 q = true
  prr : pairsOK cl L rest = true
  st : ∀ p ∈ pre, isE cl L p.1 = true ∧ dstOf p.1.2 = some p.2.1
  nd : (pre.map (·.1.1)).Nodup
  ndd : (pre.map (·.2.1)).Nodup
  eaR : ∀ q ∈ ea, q.item ∈ rest
  eaD : (ea.map EA.d).Nodup
  W : WSD P K (rest.map (·.2)) e bx own u
  G : ∀ p ∈ pre, gives P e bx u p.2.2 p.1.2 ∧ lk e p.2.1 = some p.2.2
  F : FitsC n σ (eaE ea ++ er (pre.map (·.2.1)) e) a
  sX : ∀ t, (∀ p, Un pre rest ea p → dstOf p.2 ≠ some t) → csOf σ t = csOf σF t
  s0 : ∀ t p, Un pre rest ea p → dstOf p.2 = some t → csOf σ t = []
  gX : gsIn σ gs
  gU : ∀ g ∈ gs, ∀ p, Un pre rest ea p → dstOf p.2 ≠ some g
  I : Inv cx (props bx (own ++ ea.map EA.hp)) u w

structure Stat (P : Program) (n : Nat) (ops : Array Oper) (σF : List (Nat × Gd)) (cl : List (List Nat)) (L : List (Nat × I0)) : Prop where
  clok : clOK ops cl = true
  items : ∀ p ∈ L, itemOK P n ops σF cl L p = true
  sg : ∀ p ∈ L, ∀ d, dstOf p.2 = some d → csOf σF d = p.2.cs
  /-- two items of one place are one; two that write one slot too -/
  uniq : ∀ p ∈ L, ∀ q ∈ L, (p.1 = q.1 → p = q) ∧ (∀ d, dstOf p.2 = some d → dstOf q.2 = some d → p = q)

section
variable {P : Program} {n : Nat} {ops : Array Oper} {σF : List (Nat × Gd)} {cl : List (List Nat)} {L : List (Nat × I0)} {K : Pd} {cx : Ctx} {listed : Array Bool} {pre : PreL} {rest : List (Nat × I0)} {ea : List EA} {σ : List (Nat × Gd)} {gs : List Nat}
  {e : Env} {bx : List Box} {own : List HP} {u : Mem} {a : Act} {w : World}

theorem pairsOK_mem : ∀ {A : List (Nat × I0)} {p : Nat × I0} {B : List (Nat × I0)}, pairsOK cl L (A ++ p :: B) = true → (∀ q ∈ A, pairOK cl L q p = true) ∧ (∀ q ∈ B, pairOK cl L p q = true) ∧ pairsOK cl L B = true
  | [], p, B, h => by
    simp only [List.nil_append, pairsOK, Bool.and_eq_true, List.all_eq_true] at h
    exact ⟨fun q hq => by (cases hq), h.1, h.2⟩
  | x :: A, p, B, h => by
    simp only [List.cons_append, pairsOK, Bool.and_eq_true, List.all_eq_true] at h
    obtain ⟨h1, h2, h3⟩ := pairsOK_mem h.2
    exact ⟨fun q hq => by
      rcases List.mem_cons.1 hq with rfl | hq
      · exact h.1 p (by simp)
      · exact h1 q hq, h2, h3⟩
theorem pairOK_rd {p q : Nat × I0} (h : pairOK cl L p q = true) {d : Nat} (hd : dstOf q.2 = some d) (hr : d ∈ p.2.rd) : p.1 ∈ cl.getD q.1 [] ∧ isE cl L q = false := by
  simp only [pairOK, hd, Bool.and_eq_true, Bool.or_eq_true] at h
  rcases h.1.1.1 with q1 | ⟨q1, q2⟩
  · have : p.2.rd.contains d = true := List.contains_iff_mem.2 hr
    rw [this] at q1; cases q1
  · exact ⟨List.contains_iff_mem.1 q1, by simpa using q2⟩
theorem pairOK_dst {p q : Nat × I0} (h : pairOK cl L p q = true) {d : Nat} (hd : dstOf q.2 = some d) : dstOf p.2 ≠ some d := by
  simp only [pairOK, hd, Bool.and_eq_true] at h
  intro hc
  rw [hc] at h; simp at h
theorem pairOK_idx {p q : Nat × I0} (h : pairOK cl L p q = true) : p.1 ≠ q.1 := by
  simp only [pairOK, Bool.and_eq_true] at h
  simpa using h.1.2
theorem pairOK_alt {p q : Nat × I0} (h : pairOK cl L p q = true) : p.1 ∈ cl.getD q.1 [] ∨ ((isE cl L p = true ∨ isB q.2 = true) ∧ bxConf p.2 q.2 = false) := by
  simp only [pairOK, Bool.and_eq_true, Bool.or_eq_true] at h
  rcases h.2 with h | ⟨h1, h2⟩
  · exact .inl (List.contains_iff_mem.1 h)
  · exact .inr ⟨h1, by simpa using h2⟩

theorem ready_iff {j : Nat} (h : j ∈ Region.ready .any ops listed) : j < ops.size ∧ listed.getD j true = false ∧ ∀ o, ops[j]? = some o → ∀ d ∈ bindsOn o, listed.getD d false = true := by
  unfold Region.ready at h
  simp only [List.mem_filter, List.mem_range, Bool.and_eq_true, Bool.not_eq_true'] at h
  obtain ⟨h1, h2, h3⟩ := h
  refine ⟨h1, h2, fun o ho d hd => ?_⟩
  rw [ho] at h3
  simp only [Option.map_some, Option.getD_some, Array.all_eq_true'] at h3
  simp only [bindsOn, List.mem_map, List.mem_filter] at hd
  obtain ⟨ed, ⟨hm, hb⟩, rfl⟩ := hd
  have := h3 ed (by simpa using hm)
  simpa [hb] using this
theorem getD_listed {d : Nat} (h : listed.getD d false = true) : listed.getD d true = true ∧ d < listed.size := by
  by_cases hd : d < listed.size
  · refine ⟨?_, hd⟩
    simp only [Array.getD, hd, dif_pos] at h ⊢
    exact h
  · simp [Array.getD, hd] at h
theorem getD_set {l : Array Bool} {j k : Nat} (hj : j < l.size) : (l.setIfInBounds j true).getD k true = if k = j then true else l.getD k true := by
  by_cases hk : k = j
  · subst hk; simp [Array.getD, hj]
  · by_cases hkl : k < l.size
    · simp [Array.getD, hkl, hk, Array.getElem_setIfInBounds, Ne.symm hk]
    · simp [Array.getD, hkl, hk]

theorem Stat.idx (S : Stat P n ops σF cl L) {p : Nat × I0} (hp : p ∈ L) : p.1 < ops.size := by
  have hip := S.items p hp
  unfold itemOK at hip
  split at hip
  · rename_i o' ho'; exact (Array.getElem?_eq_some_iff.1 ho').1
  · cases hip
theorem Stat.dep (S : Stat P n ops σF cl L) {p q : Nat × I0} (hp : p ∈ L) (hq : q ∈ L) {t : Nat} (ht : t ∈ p.2.rd) (hd : dstOf q.2 = some t) :
    q.1 ∈ cl.getD p.1 [] ∨ (p.1 ∈ cl.getD q.1 [] ∧ isE cl L q = false ∧ q.2.cs = [] ∧ t ∉ p.2.cs.map (·.1)) := by
  have hip := S.items p hp
  unfold itemOK at hip
  split at hip
  rotate_left
  · cases hip
  simp only [Bool.and_eq_true] at hip
  have := List.all_eq_true.1 (List.all_eq_true.1 hip.2 t ht) q hq
  simp only [depOK, Bool.or_eq_true, Bool.and_eq_true] at this
  rcases this with (h | h) | ⟨⟨⟨h1, h2⟩, h3⟩, h4⟩
  · rw [hd] at h; simp at h
  · exact .inl (List.contains_iff_mem.1 h)
  · refine .inr ⟨List.contains_iff_mem.1 h1, by simpa using h2, by simpa using h3, fun hm => ?_⟩
    have : (p.2.cs.map (·.1)).contains t = true := List.contains_iff_mem.2 hm
    rw [this] at h4; cases h4
theorem Stat.self (S : Stat P n ops σF cl L) {p : Nat × I0} (hp : p ∈ L) {d : Nat} (hd : dstOf p.2 = some d) : d ∉ p.2.rd := by
  have hip := S.items p hp
  unfold itemOK at hip
  split at hip
  rotate_left
  · cases hip
  simp only [Bool.and_eq_true, hd] at hip
  intro hm
  have : p.2.rd.contains d = true := List.contains_iff_mem.2 hm
  have h2 := hip.1.1.2
  rw [this] at h2; cases h2

theorem Un.mem {p : Nat × I0} (h : Un pre rest ea p) : p ∈ pre.map (·.1) ++ rest := by
  rcases h with h | ⟨h, _⟩
  · exact List.mem_append_left _ h
  · exact List.mem_append_right _ h
theorem DI.un (S : Stat P n ops σF cl L) (D : DI P n ops σF cl L K cx listed pre rest ea σ gs e bx own u a w) {p : Nat × I0} (h : Un pre rest ea p) : listed.getD p.1 true = false :=
  (D.lst p.1 (S.idx (D.inL p h.mem))).2 ⟨p, h, rfl⟩
theorem DI.unp (D : DI P n ops σF cl L K cx listed pre rest ea σ gs e bx own u a w) {p : (Nat × I0) × Nat × Value} (h : p ∈ pre) : Un pre rest ea p.1 := .inl (List.mem_map.2 ⟨p, h, rfl⟩)
theorem DI.eal (S : Stat P n ops σF cl L) (D : DI P n ops σF cl L K cx listed pre rest ea σ gs e bx own u a w) {q : EA} (h : q ∈ ea) : listed.getD q.j true = true := by
  have hq := D.eaR q h
  have hL := D.inL _ (List.mem_append_right _ hq)
  cases hl : listed.getD q.j true with
  | true => rfl
  | false =>
    obtain ⟨p, hp, hpj⟩ := (D.lst q.j (S.idx (p := q.item) hL)).1 hl
    exfalso
    have := (S.uniq p (D.inL p hp.mem) _ hL).1 hpj
    subst this
    rcases hp with hp | ⟨_, hp⟩
    · obtain ⟨r, hr, hrq⟩ := List.mem_map.1 hp
      have := pairOK_idx (D.prs r hr _ hq)
      rw [hrq] at this; exact this rfl
    · exact hp q h rfl

theorem DI.closed (S : Stat P n ops σF cl L) (D : DI P n ops σF cl L K cx listed pre rest ea σ gs e bx own u a w) {j : Nat} (h : j ∈ Region.ready .any ops listed) : ∀ i ∈ cl.getD j [], listed.getD i true = true := by
  obtain ⟨h1, h2, h3⟩ := ready_iff h
  intro i hi
  have hc := List.all_eq_true.1 S.clok j (List.mem_range.2 h1)
  have ho : ops[j]? = some ops[j] := Array.getElem?_eq_getElem h1
  rw [ho] at hc
  simp only at hc
  have := List.all_eq_true.1 hc i hi
  obtain ⟨d, hd, hdi⟩ := List.any_eq_true.1 this
  obtain ⟨l1, l2⟩ := getD_listed (h3 _ ho d hd)
  simp only [Bool.or_eq_true] at hdi
  rcases hdi with q | q
  · have : d = i := by simpa using q
    subst this; exact l1
  · exact D.down d i (by rw [← D.size]; exact l2) l1 (List.contains_iff_mem.1 q)

/-- whoever is not done and writes what a ready item reads stands behind it -/
theorem DI.war (S : Stat P n ops σF cl L) (D : DI P n ops σF cl L K cx listed pre rest ea σ gs e bx own u a w) {j : Nat} (h : j ∈ Region.ready .any ops listed) {x : I0} (hx : (j, x) ∈ L) {t : Nat} (ht : t ∈ x.rd) {p : Nat × I0} (hp : Un pre rest ea p) (hd : dstOf p.2 = some t) :
    isE cl L p = false ∧ p.2.cs = [] ∧ t ∉ x.cs.map (·.1) := by
  rcases S.dep hx (D.inL p hp.mem) ht hd with q | q
  · have := D.closed S h _ q
    rw [D.un S hp] at this; cases this
  · exact q.2

/-- the slots that a ready item reads are as the walk has them -/
theorem DI.real (S : Stat P n ops σF cl L) (D : DI P n ops σF cl L K cx listed pre rest ea σ gs e bx own u a w) {j : Nat} (h : j ∈ Region.ready .any ops listed) {x : I0} (hx : (j, x) ∈ L) (hpair : ∀ q ∈ ea, pairOK cl L (j, x) q.item = true) :
    ∀ t ∈ x.rd, lk (eaE ea ++ er (pre.map (·.2.1)) e) t = lk e t := by
  obtain ⟨h1, h2, h3⟩ := ready_iff h
  intro t ht
  rw [lk_app, lk_eaE_none, lk_er, if_neg]
  · intro hm
    obtain ⟨q, hq, hqt⟩ := List.mem_map.1 hm
    have hw := D.war S h hx ht (D.unp hq) (by rw [(D.st q hq).2, hqt])
    rw [(D.st q hq).1] at hw; cases hw.1
  · intro q hq hqt
    have hr := pairOK_rd (hpair q hq) (d := q.d) rfl (by rw [hqt]; exact ht)
    have hqL := D.inL _ (List.mem_append_right _ (D.eaR q hq))
    have := D.down q.j j (S.idx (p := q.item) hqL) (D.eal S hq) hr.1
    rw [h2] at this; cases this

theorem DI.chk (S : Stat P n ops σF cl L) (D : DI P n ops σF cl L K cx listed pre rest ea σ gs e bx own u a w) {j : Nat} (h : j ∈ Region.ready .any ops listed) {x : I0} (hun : Un pre rest ea (j, x)) :
    ∃ o gd, ops[j]? = some o ∧ gdOf ops o = some gd ∧ chk1 P n σ gs gd o x = some (match dstOf x with
      | some d => (d, x.cs) :: σ
      | none => σ, x.cs.map (·.1) ++ gs) := by
  have hx := D.inL _ hun.mem
  have hit := S.items _ hx
  obtain ⟨h1, h2, h3⟩ := ready_iff h
  have ho : ops[j]? = some ops[j] := Array.getElem?_eq_getElem h1
  simp only [itemOK, ho, Bool.and_eq_true] at hit
  have hc := hit.1.1.1
  split at hc
  rotate_left
  · cases hc
  rename_i gd hgd
  refine ⟨_, gd, ho, hgd, chk1_congr hc (fun t ht => ?_) (fun d hd hm => D.gU d hm _ hun hd)⟩
  by_cases hw : ∃ p, Un pre rest ea p ∧ dstOf p.2 = some t
  · obtain ⟨p, hp, hd⟩ := hw
    rw [D.s0 t p hp hd, S.sg p (D.inL p hp.mem) t hd]
    exact (D.war S h hx ht hp hd).2.1
  · exact (D.sX t fun p hp hd => hw ⟨p, hp, hd⟩).symm

/-- bookkeeping when one item more is done -/
theorem DI.done (S : Stat P n ops σF cl L) (D : DI P n ops σF cl L K cx listed pre rest ea σ gs e bx own u a w) {j : Nat} (h : j ∈ Region.ready .any ops listed) {x : I0} {d : Option Nat} {pre' : PreL} {rest' : List (Nat × I0)} {ea' : List EA} {e' : Env} {bx' : List Box} {own' : List HP} {u' : Mem} {a' : Act} {w' : World} {σ' : List (Nat × Gd)} {gs' : List Nat}
    (hun : Un pre rest ea (j, x)) (hdx : dstOf x = d) (hU : ∀ p, Un pre rest ea p ↔ p = (j, x) ∨ Un pre' rest' ea' p) (hne : ¬ Un pre' rest' ea' (j, x)) (hin : ∀ p ∈ pre'.map (·.1) ++ rest', p ∈ L)
    (hprs : ∀ p ∈ pre', ∀ q ∈ rest', pairOK cl L p.1 q = true) (hprr : pairsOK cl L rest' = true) (hst : ∀ p ∈ pre', isE cl L p.1 = true ∧ dstOf p.1.2 = some p.2.1) (hnd : (pre'.map (·.1.1)).Nodup) (hndd : (pre'.map (·.2.1)).Nodup)
    (heaR : ∀ q ∈ ea', q.item ∈ rest') (heaD : (ea'.map EA.d).Nodup)
    (hW : WSD P K (rest'.map (·.2)) e' bx' own' u') (hG : ∀ p ∈ pre', gives P e' bx' u' p.2.2 p.1.2 ∧ lk e' p.2.1 = some p.2.2) (hF : FitsC n σ' (eaE ea' ++ er (pre'.map (·.2.1)) e') a') (hσ : σ' = match d with
      | some d => (d, x.cs) :: σ
      | none => σ) (hgs : gs' = x.cs.map (·.1) ++ gs) (hgX : gsIn σ' gs') (hI : Inv cx (props bx' (own' ++ ea'.map EA.hp)) u' w') :
    DI P n ops σF cl L K cx (listed.setIfInBounds j true) pre' rest' ea' σ' gs' e' bx' own' u' a' w' := by
  obtain ⟨h1, h2, h3⟩ := ready_iff h
  have hjl : j < listed.size := by rw [D.size]; exact h1
  have hx := D.inL _ hun.mem
  have hsub : ∀ p, Un pre' rest' ea' p → Un pre rest ea p := fun p hp => (hU p).2 (.inr hp)
  have hnej : ∀ p, Un pre' rest' ea' p → p ≠ (j, x) := fun p hp q => hne (q ▸ hp)
  have hdne : ∀ p, Un pre' rest' ea' p → ∀ t, d = some t → dstOf p.2 ≠ some t := fun p hp t ht hpt =>
    hnej p hp ((S.uniq p (D.inL p (hsub p hp).mem) _ hx).2 t hpt (by rw [hdx, ht]))
  refine ⟨by simp [D.size], fun k hk => ?_, fun k i hk hl hi => ?_, hin, hprs, hprr, hst, hnd, hndd, heaR, heaD, hW, hG, hF, fun t ht => ?_, fun t p hp hd => ?_, hgX, fun g hg p hp => ?_, hI⟩
  · rw [getD_set hjl]
    by_cases hkj : k = j
    · subst hkj
      simp only [if_true]
      constructor
      · intro q; cases q
      · rintro ⟨p, hp, q⟩
        exact absurd ((S.uniq p (D.inL p (hsub p hp).mem) _ hx).1 q) (hnej p hp)
    · rw [if_neg hkj, D.lst k hk]
      constructor
      · rintro ⟨p, hp, q⟩
        rcases (hU p).1 hp with rfl | r
        · exact absurd q.symm hkj
        · exact ⟨p, r, q⟩
      · rintro ⟨p, hp, q⟩; exact ⟨p, hsub p hp, q⟩
  · rw [getD_set hjl] at hl ⊢
    by_cases hij : i = j
    · simp [hij]
    · rw [if_neg hij]
      by_cases hkj : k = j
      · subst hkj; exact D.closed S h i hi
      · rw [if_neg hkj] at hl; exact D.down k i hk hl hi
  · subst hσ
    cases d with
    | none =>
      refine D.sX t fun p hp => ?_
      rcases (hU p).1 hp with rfl | r
      · rw [hdx]; simp
      · exact ht p r
    | some d =>
      simp only
      by_cases htd : d = t
      · subst htd; rw [csOf_cons_same, S.sg _ hx d hdx]
      · rw [csOf_cons_ne htd]
        refine D.sX t fun p hp => ?_
        rcases (hU p).1 hp with rfl | r
        · rw [hdx]; simpa using htd
        · exact ht p r
  · subst hσ
    cases d with
    | none => exact D.s0 t p (hsub p hp) hd
    | some d =>
      simp only
      rw [csOf_cons_ne (fun q => hdne p hp t (by rw [q]) hd)]
      exact D.s0 t p (hsub p hp) hd
  · subst hgs
    rcases List.mem_append.1 hg with hg | hg
    · intro hd
      exact (D.war S h hx (List.mem_append_right _ hg) (hsub p hp) hd).2.2 hg
    · exact D.gU g hg p (hsub p hp)

theorem isE_stable {p : Nat × I0} (h : isE cl L p = true) : p.2.stable = true := by
  simp only [isE, Bool.and_eq_true] at h; exact h.1

/-- an item that may be met ahead of its time, at the walk's front, is met -/
theorem DI.adv (S : Stat P n ops σF cl L) {x : Nat × I0} {B : List (Nat × I0)} (D : DI P n ops σF cl L K cx listed pre (x :: B) ea σ gs e bx own u a w) (hs : isE cl L x = true) :
    ∃ d v, DI P n ops σF cl L K cx listed ((x, d, v) :: pre) B ea σ gs ((d, v) :: e) bx own u a w := by
  obtain ⟨d, v, hd, hg, hW⟩ := WSD_stable (isE_stable hs) D.W
  have hpx := D.prr
  simp only [pairsOK, Bool.and_eq_true, List.all_eq_true] at hpx
  have hxL := D.inL x (by simp)
  have hxea : ∀ q ∈ ea, q.j ≠ x.1 := fun q hq hj => by
    have hL := D.inL _ (List.mem_append_right _ (D.eaR q hq))
    have := (S.uniq q.item hL x hxL).1 hj
    rw [← this] at hs; simp [isE, EA.item, I0.stable] at hs
  have hU : ∀ p, Un ((x, d, v) :: pre) B ea p ↔ Un pre (x :: B) ea p := fun p => by
    simp only [Un, List.map_cons, List.mem_cons]
    constructor
    · rintro ((h | h) | h)
      · exact .inr ⟨.inl h, by rw [h]; exact hxea⟩
      · exact .inl h
      · exact .inr ⟨.inr h.1, h.2⟩
    · rintro (h | ⟨h | h, h2⟩)
      · exact .inl (.inr h)
      · exact .inl (.inl h)
      · exact .inr ⟨h, h2⟩
  have hdp : ∀ p ∈ pre, d ∉ p.1.2.rd ∧ p.2.1 ≠ d := fun p hp => by
    have hp2 := D.prs p hp x (by simp)
    refine ⟨fun hr => ?_, fun q => pairOK_dst hp2 hd (by rw [(D.st p hp).2, q])⟩
    have := (pairOK_rd hp2 hd hr).2
    rw [hs] at this; cases this
  refine ⟨d, v, ⟨D.size, fun j hj => (D.lst j hj).trans ?_, D.down, fun p hp => D.inL p (mem_mv hp), ?_, hpx.2, ?_, ?_, ?_, fun q hq => ?_, D.eaD, hW, ?_, ?_, fun t ht => D.sX t fun p hp => ht p ((hU p).2 hp), fun t p hp hd => D.s0 t p ((hU p).1 hp) hd, D.gX, fun g hg p hp => D.gU g hg p ((hU p).1 hp), D.I⟩⟩
  · constructor
    · rintro ⟨p, hp, h⟩; exact ⟨p, (hU p).2 hp, h⟩
    · rintro ⟨p, hp, h⟩; exact ⟨p, (hU p).1 hp, h⟩
  · intro p hp q hq
    rcases List.mem_cons.1 hp with rfl | hp
    · exact hpx.1 q hq
    · exact D.prs p hp q (List.mem_cons_of_mem _ hq)
  · intro p hp
    rcases List.mem_cons.1 hp with rfl | hp
    · exact ⟨hs, hd⟩
    · exact D.st p hp
  · simp only [List.map_cons, List.nodup_cons]
    refine ⟨fun h => ?_, D.nd⟩
    obtain ⟨p, hp, hpi⟩ := List.mem_map.1 h
    exact pairOK_idx (D.prs p hp x (by simp)) hpi
  · simp only [List.map_cons, List.nodup_cons]
    refine ⟨fun h => ?_, D.ndd⟩
    obtain ⟨p, hp, hpi⟩ := List.mem_map.1 h
    exact (hdp p hp).2 hpi
  · rcases List.mem_cons.1 (D.eaR q hq) with h | h
    · exact absurd (by rw [← h]; rfl) (hxea q hq)
    · exact h
  · intro p hp
    rcases List.mem_cons.1 hp with rfl | hp
    · refine ⟨gives_congr hg (fun t ht => ?_) (bxSame_refl _ _), lk_cons_same _ _ _⟩
      by_cases htd : d = t
      · subst htd
        exact absurd ht (S.self hxL hd)
      · exact (lk_cons_ne htd _ _).symm
    · obtain ⟨h1, h2⟩ := D.G p hp
      refine ⟨gives_congr h1 (fun t ht => (lk_cons_ne (fun q => (hdp p hp).1 (by rw [q]; exact ht)) _ _).symm) (bxSame_refl _ _), ?_⟩
      rw [lk_cons_ne (fun q => (hdp p hp).2 q.symm)]; exact h2
  · have hlk : ∀ t, t ≠ d → lk (eaE ea ++ er ((((x, d, v) :: pre : PreL)).map (·.2.1)) ((d, v) :: e)) t = lk (eaE ea ++ er (pre.map (·.2.1)) e) t := fun t ht => by
      rw [lk_app, lk_app]
      have : lk (er ((((x, d, v) :: pre : PreL)).map (·.2.1)) ((d, v) :: e)) t = lk (er (pre.map (·.2.1)) e) t := by
        have hmm : t ∈ List.map (fun p => p.2.1) (((x, d, v) :: pre : PreL)) ↔ t ∈ pre.map (·.2.1) := by
          constructor
          · intro h
            rcases List.mem_cons.1 h with h | h
            · exact absurd h ht
            · exact h
          · exact fun h => List.mem_cons_of_mem _ h
        rw [lk_er, lk_er, lk_cons_ne (fun q => ht q.symm)]
        by_cases hm : t ∈ pre.map (·.2.1)
        · rw [if_pos hm, if_pos (hmm.2 hm)]
        · rw [if_neg hm, if_neg (fun q => hm (hmm.1 q))]
      rw [this]
    have hd0 : lk (eaE ea ++ er ((((x, d, v) :: pre : PreL)).map (·.2.1)) ((d, v) :: e)) d = lk (eaE ea) d := by
      rw [lk_app]
      cases lk (eaE ea) d with
      | some v => rfl
      | none => simp [lk_er]
    have heaD : lk (eaE ea) d = none := lk_eaE_none fun q hq hqd => by
      have hL := D.inL _ (List.mem_append_right _ (D.eaR q hq))
      have := (S.uniq q.item hL x hxL).2 d (by rw [← hqd]; rfl) hd
      exact hxea q hq (by rw [← this]; rfl)
    refine D.F.sub (fun t v' hv => ?_) (fun t v' hv p hp => ?_)
    · by_cases ht : t = d
      · subst ht; rw [hd0, heaD] at hv; cases hv
      · rw [hlk t ht] at hv; exact hv
    · have hgd := D.gU p.1 (D.gX t p hp) x ((hU x).1 (.inl (by simp)))
      exact hlk p.1 fun q => hgd (by rw [hd, q])

/-- a box that the machine has laid ahead is met by the walk -/
theorem DI.advB (S : Stat P n ops σF cl L) {x : Nat × I0} {B : List (Nat × I0)} (D : DI P n ops σF cl L K cx listed pre (x :: B) ea σ gs e bx own u a w) {q : EA} (hq : q ∈ ea) (hqx : q.item = x) :
    ∃ ea', DI P n ops σF cl L K cx listed pre B ea' σ gs ((q.d, q.ptr) :: e) (⟨q.nm, q.b, q.z, q.T⟩ :: bx) own u a w ∧ (∀ r ∈ ea, r ≠ q → r ∈ ea') ∧ ∀ r ∈ ea', r ∈ ea := by
  have hpx := D.prr
  simp only [pairsOK, Bool.and_eq_true, List.all_eq_true] at hpx
  have hxL := D.inL x (by simp)
  subst hqx
  have hW := D.W
  simp only [List.map_cons, EA.item, WSD, A.wpD, A.wp] at hW
  have hW := hW q.b
  simp only [putd] at hW
  obtain ⟨l1, l2, hl⟩ := List.append_of_mem hq
  have hnod := D.eaD
  have hjne : ∀ r ∈ l1 ++ l2, r.j ≠ q.j ∧ r.d ≠ q.d := fun r hr => by
    have hrm : r ∈ ea := by rw [hl]; exact mem_md hr
    have hrL := D.inL _ (List.mem_append_right _ (D.eaR r hrm))
    have hdne : r.d ≠ q.d := by
      rw [hl] at hnod
      simp only [List.map_append, List.map_cons] at hnod
      intro he
      have hp := nodup_mid hnod
      simp only [List.nodup_cons] at hp
      refine hp.1 ?_
      rw [← he, ← List.map_append]
      exact List.mem_map.2 ⟨r, hr, rfl⟩
    refine ⟨fun hj => hdne ?_, hdne⟩
    have := (S.uniq r.item hrL q.item hxL).1 hj
    simp only [EA.item, Prod.mk.injEq, I0.a.injEq] at this
    simpa using this.2.1
  have hlist := D.eal S hq
  have hU : ∀ p, Un pre B (l1 ++ l2) p ↔ Un pre (q.item :: B) ea p := fun p => by
    simp only [Un, List.mem_cons]
    constructor
    · rintro (h | ⟨h, h2⟩)
      · exact .inl h
      · refine .inr ⟨.inr h, fun r hr => ?_⟩
        by_cases hrq : r.j = q.j
        · rw [hrq]; exact pairOK_idx (hpx.1 p h)
        · exact h2 r (mem_un (by rw [← hl]; exact hr) (fun e => hrq (by rw [e])))
    · rintro (h | ⟨h | h, h2⟩)
      · exact .inl h
      · exact absurd (by rw [h]; rfl) (h2 q hq)
      · exact .inr ⟨h, fun r hr => h2 r (by rw [hl]; exact mem_md hr)⟩
  have hprelisted : ∀ p ∈ pre, p.1.1 ∉ cl.getD q.j [] := fun p hp hm => by
    have := D.down q.j _ (S.idx (p := q.item) hxL) hlist hm
    rw [D.un S (D.unp hp)] at this; cases this
  have hdp : ∀ p ∈ pre, q.d ∉ p.1.2.rd ∧ p.2.1 ≠ q.d := fun p hp => by
    have hp2 := D.prs p hp q.item (by simp)
    exact ⟨fun hr => hprelisted p hp (pairOK_rd hp2 (d := q.d) rfl hr).1, fun h => pairOK_dst hp2 (d := q.d) rfl (by rw [(D.st p hp).2, h])⟩
  have hlkR : ∀ t, lk (eaE (l1 ++ l2) ++ er (pre.map (·.2.1)) ((q.d, q.ptr) :: e)) t = lk (eaE ea ++ er (pre.map (·.2.1)) e) t := fun t => by
    rw [lk_app, lk_app]
    by_cases ht : t = q.d
    · subst ht
      rw [lk_eaE_none (fun r hr => (hjne r hr).2), lk_eaE_some hq D.eaD]
      simp only
      rw [lk_er, if_neg, lk_cons_same]
      intro hm
      obtain ⟨p, hp, hpd⟩ := List.mem_map.1 hm
      exact (hdp p hp).2 hpd
    · have h1 : lk (eaE (l1 ++ l2)) t = lk (eaE ea) t := by
        rw [hl]
        unfold eaE
        rw [List.map_append, List.map_append, List.map_cons, lk_app, lk_app, lk_cons_ne (fun q => ht q.symm)]
      have h2 : lk (er (pre.map (·.2.1)) ((q.d, q.ptr) :: e)) t = lk (er (pre.map (·.2.1)) e) t := by
        rw [lk_er, lk_er, lk_cons_ne (fun q => ht q.symm)]
      rw [h1, h2]
  refine ⟨l1 ++ l2, ?_, fun r hr hne => mem_un (by rw [← hl]; exact hr) hne, fun r hr => by rw [hl]; exact mem_md hr⟩
  refine ⟨D.size, fun j hj => (D.lst j hj).trans ?_, D.down, fun p hp => D.inL p (mem_md hp), fun p hp r hr => D.prs p hp r (List.mem_cons_of_mem _ hr), hpx.2, D.st, D.nd, D.ndd, fun r hr => ?_, ?_, hW, ?_, D.F.same hlkR, fun t ht => D.sX t fun p hp => ht p ((hU p).2 hp), fun t p hp hd => D.s0 t p ((hU p).1 hp) hd, D.gX, fun g hg p hp => D.gU g hg p ((hU p).1 hp), ?_⟩
  · constructor
    · rintro ⟨p, hp, h⟩; exact ⟨p, (hU p).2 hp, h⟩
    · rintro ⟨p, hp, h⟩; exact ⟨p, (hU p).1 hp, h⟩
  · have hrm : r ∈ ea := by rw [hl]; exact mem_md hr
    rcases List.mem_cons.1 (D.eaR r hrm) with h | h
    · have : r.j = q.j := congrArg Prod.fst h
      exact absurd this (hjne r hr).1
    · exact h
  · rw [hl] at hnod
    simp only [List.map_append, List.map_cons] at hnod ⊢
    exact (List.nodup_cons.1 (nodup_mid hnod)).2
  · intro p hp
    obtain ⟨h1, h2⟩ := D.G p hp
    have hconf : bxConf p.1.2 q.item.2 = false := by
      rcases pairOK_alt (D.prs p hp q.item (by simp)) with r | r
      · exact absurd r (hprelisted p hp)
      · exact r.2
    refine ⟨gives_congr h1 (fun t ht => (lk_cons_ne (fun h => (hdp p hp).1 (by rw [h]; exact ht)) _ _).symm) (bx_new fun d' cs op b hxe hb => ?_), ?_⟩
    · rw [hxe] at hconf
      cases op <;> simp [PI.box] at hb
      subst hb
      simpa [bxConf, EA.item] using hconf
    · rw [lk_cons_ne (fun h => (hdp p hp).2 h.symm)]; exact h2
  · refine D.I.perm ?_
    unfold props
    rw [hl, List.map_append, List.map_append, List.map_cons, List.map_cons]
    have h1 : List.Perm (List.map EA.hp l1 ++ EA.hp q :: List.map EA.hp l2) (EA.hp q :: (List.map EA.hp l1 ++ List.map EA.hp l2)) := List.perm_middle
    refine ((h1.append_left own).append_left _).trans ?_
    have h2 : List.Perm (own ++ (EA.hp q :: (List.map EA.hp l1 ++ List.map EA.hp l2))) (EA.hp q :: (own ++ (List.map EA.hp l1 ++ List.map EA.hp l2))) := List.perm_middle
    exact (h2.append_left _).trans List.perm_middle

/-- a pending item is met -/
theorem DI.exec_pre (S : Stat P n ops σF cl L) (D : DI P n ops σF cl L K cx listed pre rest ea σ gs e bx own u a w) {j : Nat} (h : j ∈ Region.ready .any ops listed) {p : (Nat × I0) × Nat × Value} (hp : p ∈ pre) (hj : p.1.1 = j) {next : Act → World → Prop} {Q : Exit → Act → World → Prop}
    (k : ∀ pre' σ' gs' a' w', DI P n ops σF cl L K cx (listed.setIfInBounds j true) pre' rest ea σ' gs' e bx own u a' w' → next a' w') : wpOp P ops Q j next a w := by
  obtain ⟨⟨j', x⟩, d, v⟩ := p
  simp only at hj
  subst hj
  have hun : Un pre rest ea (j', x) := D.unp hp
  have hx := D.inL _ hun.mem
  obtain ⟨o, gd, ho, hgd, hc⟩ := D.chk S h hun
  obtain ⟨hs, hd⟩ := D.st _ hp
  obtain ⟨hg, hlk⟩ := D.G _ hp
  simp only at hs hd hg hlk
  have hg' : gives P (eaE ea ++ er (pre.map (·.2.1)) e) bx u v x := gives_congr hg (fun t ht => (D.real S h hx (fun q hq => D.prs _ hp _ (D.eaR q hq)) t ht).symm) (bxSame_refl _ _)
  rw [hd] at hc
  refine one_sound ho (.inl hgd) hc (gives_WS0 hd hg') D.F D.gX D.I ?_
  rintro e1 bx1 own1 u1 a1 w1 ⟨rfl, rfl, rfl, rfl⟩ f1 g1 i1
  have hdd : ∀ q ∈ pre, q.1.1 ≠ j' → q.2.1 ≠ d := fun q hq hne heq => hne (by
    have : q = ((j', x), d, v) := nodup_inj D.ndd hq hp heq
    rw [this])
  have hmem : ∀ q : (Nat × I0) × Nat × Value, q ∈ pre.filter (fun q => q.1.1 != j') ↔ q ∈ pre ∧ q.1.1 ≠ j' := fun q => by simp [List.mem_filter]
  have hU : ∀ q, Un pre rest ea q ↔ q = (j', x) ∨ Un (pre.filter fun q => q.1.1 != j') rest ea q := fun q => by
    constructor
    · rintro (hq | hq)
      · obtain ⟨r, hr, rfl⟩ := List.mem_map.1 hq
        by_cases hrj : r.1.1 = j'
        · left
          have : r = ((j', x), d, v) := nodup_inj D.nd hr hp hrj
          rw [this]
        · exact .inr (.inl (List.mem_map.2 ⟨r, (hmem r).2 ⟨hr, hrj⟩, rfl⟩))
      · exact .inr (.inr hq)
    · rintro (rfl | hq | hq)
      · exact hun
      · obtain ⟨r, hr, rfl⟩ := List.mem_map.1 hq
        exact .inl (List.mem_map.2 ⟨r, ((hmem r).1 hr).1, rfl⟩)
      · exact .inr hq
  have hne : ¬ Un (pre.filter fun q => q.1.1 != j') rest ea (j', x) := by
    rintro (hq | ⟨hq, _⟩)
    · obtain ⟨r, hr, hrq⟩ := List.mem_map.1 hq
      exact ((hmem r).1 hr).2 (by rw [hrq])
    · exact pairOK_idx (D.prs _ hp _ hq) rfl
  have hsubm : ∀ q, q ∈ (pre.filter fun q => q.1.1 != j').map (·.1) ++ rest → q ∈ pre.map (·.1) ++ rest := fun q hq => by
    rcases List.mem_append.1 hq with hq | hq
    · obtain ⟨r, hr, rfl⟩ := List.mem_map.1 hq
      exact List.mem_append_left _ (List.mem_map.2 ⟨r, ((hmem r).1 hr).1, rfl⟩)
    · exact List.mem_append_right _ hq
  refine k (pre.filter fun q => q.1.1 != j') _ _ a1 w1 (D.done S h (x := x) (d := some d) hun hd hU hne (fun q hq => D.inL q (hsubm q hq)) (fun q hq r hr => D.prs q ((hmem q).1 hq).1 r hr) D.prr (fun q hq => D.st q ((hmem q).1 hq).1) (nodup_filter (fun q : (Nat × I0) × Nat × Value => q.1.1) D.nd) (nodup_filter (fun q : (Nat × I0) × Nat × Value => q.2.1) D.ndd) D.eaR D.eaD D.W (fun q hq => D.G q ((hmem q).1 hq).1) ?_ rfl rfl g1 i1)
  have hea0 : lk (eaE ea) d = none := lk_eaE_none fun q hq hqd => by
    have := (S.uniq q.item (D.inL _ (List.mem_append_right _ (D.eaR q hq))) (j', x) hx).2 d (by rw [← hqd]; rfl) hd
    have hxs := isE_stable hs
    rw [← this] at hxs; cases hxs
  have hD' : ∀ t, d ≠ t → (t ∈ (pre.filter fun q => q.1.1 != j').map (·.2.1) ↔ t ∈ pre.map (·.2.1)) := fun t htd => by
    constructor
    · intro hm
      obtain ⟨r, hr, hrd⟩ := List.mem_map.1 hm
      exact List.mem_map.2 ⟨r, ((hmem r).1 hr).1, hrd⟩
    · intro hm
      obtain ⟨r, hr, hrd⟩ := List.mem_map.1 hm
      refine List.mem_map.2 ⟨r, (hmem r).2 ⟨hr, fun hj => htd ?_⟩, hrd⟩
      have : r = ((j', x), d, v) := nodup_inj D.nd hr hp hj
      rw [← hrd, this]
  refine f1.same fun t => ?_
  by_cases htd : d = t
  · subst htd
    rw [lk_cons_same, lk_app, hea0]
    simp only
    rw [lk_er, if_neg, hlk]
    intro hm
    obtain ⟨r, hr, hrd⟩ := List.mem_map.1 hm
    obtain ⟨hr1, hr2⟩ := (hmem r).1 hr
    exact hdd r hr1 hr2 hrd
  · rw [lk_cons_ne htd, lk_app, lk_app]
    have : lk (er ((pre.filter fun q => q.1.1 != j').map (·.2.1)) e) t = lk (er (pre.map (·.2.1)) e) t := by
      rw [lk_er, lk_er]
      by_cases hm : t ∈ pre.map (·.2.1)
      · rw [if_pos hm, if_pos ((hD' t htd).2 hm)]
      · rw [if_neg hm, if_neg (fun q => hm ((hD' t htd).1 q))]
    rw [this]

/-- a plain new box is laid ahead of its time -/
theorem DI.exec_early (S : Stat P n ops σF cl L) (D : DI P n ops σF cl L K cx listed pre rest ea σ gs e bx own u a w) {j d nm : Nat} {T : TypeId} {z : List Value} (h : j ∈ Region.ready .any ops listed) (hin : (j, I0.a (some d) (.box nm T z)) ∈ rest) (hnea : ∀ q ∈ ea, q.j ≠ j) {next : Act → World → Prop} {Q : Exit → Act → World → Prop}
    (k : ∀ ea' σ' gs' a' w', DI P n ops σF cl L K cx (listed.setIfInBounds j true) pre rest ea' σ' gs' e bx own u a' w' → next a' w') : wpOp P ops Q j next a w := by
  have hun : Un pre rest ea (j, I0.a (some d) (.box nm T z)) := .inr ⟨hin, hnea⟩
  have hx := D.inL _ hun.mem
  obtain ⟨o, gd, ho, hgd, hc⟩ := D.chk S h hun
  refine one_sound (K := fun e1 bx1 own1 u1 => ∃ blk, e1 = (d, Value.pointer (some ⟨blk, 0, none⟩)) :: (eaE ea ++ er (pre.map (·.2.1)) e) ∧ bx1 = ⟨nm, blk, z, T⟩ :: bx ∧ own1 = own ++ ea.map EA.hp ∧ u1 = u) ho (.inl hgd) hc ?_ D.F D.gX D.I ?_
  · simp only [WS0, A.wp, putd]
    intro blk
    refine ⟨blk, ?_⟩
    simp
  rintro e1 bx1 own1 u1 a1 w1 ⟨blk, rfl, rfl, rfl, rfl⟩ f1 g1 i1
  have hU : ∀ q, Un pre rest ea q ↔ q = (j, I0.a (some d) (.box nm T z)) ∨ Un pre rest (⟨j, d, nm, T, z, blk⟩ :: ea) q := fun q => by
    constructor
    · rintro (hq | ⟨hq, hq2⟩)
      · exact .inr (.inl hq)
      · by_cases hqj : j = q.1
        · exact .inl (((S.uniq q (D.inL q (List.mem_append_right _ hq)) _ hx).1 hqj.symm))
        · refine .inr (.inr ⟨hq, fun r hr => ?_⟩)
          rcases List.mem_cons.1 hr with rfl | hr
          · exact hqj
          · exact hq2 r hr
    · rintro (rfl | hq | ⟨hq, hq2⟩)
      · exact hun
      · exact .inl hq
      · exact .inr ⟨hq, fun r hr => hq2 r (List.mem_cons_of_mem _ hr)⟩
  refine k (⟨j, d, nm, T, z, blk⟩ :: ea) _ _ a1 w1 (D.done S h (x := .a (some d) (.box nm T z)) (d := some d) hun rfl hU ?_ D.inL D.prs D.prr D.st D.nd D.ndd ?_ ?_ D.W D.G f1 rfl rfl g1 ?_)
  · rintro (hq | ⟨_, hq⟩)
    · obtain ⟨r, hr, hrq⟩ := List.mem_map.1 hq
      exact pairOK_idx (D.prs r hr _ hin) (by rw [hrq])
    · exact hq _ (List.mem_cons_self ..) rfl
  · intro q hq
    rcases List.mem_cons.1 hq with rfl | hq
    · exact hin
    · exact D.eaR q hq
  · simp only [List.map_cons, List.nodup_cons]
    refine ⟨fun hm => ?_, D.eaD⟩
    obtain ⟨q, hq, hqd⟩ := List.mem_map.1 hm
    have := (S.uniq q.item (D.inL _ (List.mem_append_right _ (D.eaR q hq))) _ hx).2 d (by rw [← hqd]; rfl) rfl
    exact hnea q hq (congrArg Prod.fst this)
  · refine i1.perm ?_
    unfold props
    show List.Perm (Box.hp ⟨nm, blk, z, T⟩ :: (bx.map Box.hp ++ (own ++ ea.map EA.hp))) (bx.map Box.hp ++ (own ++ (Box.hp ⟨nm, blk, z, T⟩ :: ea.map EA.hp)))
    rw [← List.append_assoc, ← List.append_assoc]
    exact List.perm_middle.symm

/-- the walk's next item, no box laid ahead, is met -/
theorem DI.exec_head (S : Stat P n ops σF cl L) {j : Nat} {x : I0} {B : List (Nat × I0)} (D : DI P n ops σF cl L K cx listed pre ((j, x) :: B) ea σ gs e bx own u a w) (h : j ∈ Region.ready .any ops listed) (hnb : isB x = false) {next : Act → World → Prop} {Q : Exit → Act → World → Prop}
    (k : ∀ σ' gs' e' bx' own' u' a' w', DI P n ops σF cl L K cx (listed.setIfInBounds j true) pre B ea σ' gs' e' bx' own' u' a' w' → next a' w') : wpOp P ops Q j next a w := by
  have hpr := D.prr
  simp only [pairsOK, Bool.and_eq_true, List.all_eq_true] at hpr
  have hx := D.inL (j, x) (by simp)
  have hnitem : ∀ q ∈ ea, q.item ≠ (j, x) := fun q hq he => by
    have : isB q.item.2 = true := rfl
    rw [he] at this; rw [this] at hnb; cases hnb
  have hnea : ∀ q ∈ ea, q.j ≠ j := fun q hq hqj => hnitem q hq ((S.uniq q.item (D.inL _ (List.mem_append_right _ (D.eaR q hq))) _ hx).1 hqj)
  have heaB : ∀ q ∈ ea, q.item ∈ B := fun q hq => by
    rcases List.mem_cons.1 (D.eaR q hq) with hh | hh
    · exact absurd hh (hnitem q hq)
    · exact hh
  have hun : Un pre ((j, x) :: B) ea (j, x) := .inr ⟨List.mem_cons_self .., hnea⟩
  obtain ⟨o, gd, ho, hgd, hc⟩ := D.chk S h hun
  have hreal := D.real S h hx (fun q hq => hpr.1 _ (heaB q hq))
  have hprun : ∀ p ∈ pre, p.1.1 ∉ cl.getD j [] := fun p hp hm => by
    have := D.closed S h _ hm
    rw [D.un S (D.unp hp)] at this; cases this
  have hdp : ∀ dd, dstOf x = some dd → ∀ p ∈ pre, dd ∉ p.1.2.rd ∧ p.2.1 ≠ dd := fun dd hdd p hp => by
    have hp2 := D.prs p hp (j, x) (by simp)
    exact ⟨fun hr => hprun p hp (pairOK_rd hp2 (d := dd) hdd hr).1, fun q => pairOK_dst hp2 (d := dd) hdd (by rw [(D.st p hp).2, q])⟩
  have hea0 : ∀ dd, dstOf x = some dd → lk (eaE ea) dd = none := fun dd hdd => lk_eaE_none fun q hq hqd => by
    have := (S.uniq q.item (D.inL _ (List.mem_append_right _ (D.eaR q hq))) _ hx).2 dd (by rw [← hqd]; rfl) hdd
    exact hnitem q hq this
  have hU : ∀ q, Un pre ((j, x) :: B) ea q ↔ q = (j, x) ∨ Un pre B ea q := fun q => by
    constructor
    · rintro (hq | ⟨hq, hq2⟩)
      · exact .inr (.inl hq)
      · rcases List.mem_cons.1 hq with rfl | hq
        · exact .inl rfl
        · exact .inr (.inr ⟨hq, hq2⟩)
    · rintro (rfl | hq | ⟨hq, hq2⟩)
      · exact hun
      · exact .inl hq
      · exact .inr ⟨List.mem_cons_of_mem _ hq, hq2⟩
  have hne : ¬ Un pre B ea (j, x) := by
    rintro (hq | ⟨hq, _⟩)
    · obtain ⟨r, hr, hrq⟩ := List.mem_map.1 hq
      exact pairOK_idx (D.prs r hr (j, x) (by simp)) (by rw [hrq])
    · exact pairOK_idx (hpr.1 _ hq) rfl
  have hlkE : ∀ (d : Option Nat) (v : Value), (∀ dd, d = some dd → dstOf x = some dd) → ∀ t, lk (eaE ea ++ er (pre.map (·.2.1)) (putd d v e)) t = lk (putd d v (eaE ea ++ er (pre.map (·.2.1)) e)) t := fun d v hd t => by
    cases d with
    | none => rfl
    | some dd =>
      have hdd := hd dd rfl
      show _ = lk ((dd, v) :: (eaE ea ++ er (pre.map (·.2.1)) e)) t
      by_cases htd : dd = t
      · subst htd
        rw [lk_cons_same, lk_app, hea0 dd hdd]
        simp only
        rw [lk_er, if_neg]
        · exact lk_cons_same _ _ _
        · intro hm
          obtain ⟨r, hr, hrd⟩ := List.mem_map.1 hm
          exact (hdp dd hdd r hr).2 hrd
      · rw [lk_cons_ne htd, lk_app, lk_app]
        have : lk (er (pre.map (·.2.1)) (putd (some dd) v e)) t = lk (er (pre.map (·.2.1)) e) t := by
          rw [lk_er, lk_er]
          show (if _ then none else lk ((dd, v) :: e) t) = _
          rw [lk_cons_ne htd]
        rw [this]
  have hlkp : ∀ (d : Option Nat) (v : Value) t, (∀ dd, d = some dd → dd ≠ t) → lk (putd d v e) t = lk e t := fun d v t ht => by
    cases d with
    | none => rfl
    | some dd => exact lk_cons_ne (ht dd rfl) _ _
  by_cases hs : x.stable = true
  · obtain ⟨d, v, hd, hg, hW⟩ := WSD_stable hs D.W
    rw [show dstOf x = some d from hd] at hc
    have hg' : gives P (eaE ea ++ er (pre.map (·.2.1)) e) bx u v x := gives_congr hg (fun t ht => (hreal t ht).symm) (bxSame_refl _ _)
    refine one_sound ho (.inl hgd) hc (gives_WS0 hd hg') D.F D.gX D.I ?_
    rintro e1 bx1 own1 u1 a1 w1 ⟨rfl, rfl, rfl, rfl⟩ f1 g1 i1
    refine k _ _ _ _ _ _ a1 w1 (D.done S h (x := x) (d := some d) hun hd hU hne (fun q hq => D.inL q (mem_md hq)) (fun p hp q hq => D.prs p hp q (List.mem_cons_of_mem _ hq)) hpr.2 D.st D.nd D.ndd heaB D.eaD hW (fun p hp => ?_) (f1.same (hlkE (some d) v (fun dd hdd => by rw [hd, hdd]))) rfl rfl g1 i1)
    obtain ⟨h1, h2⟩ := D.G p hp
    refine ⟨gives_congr h1 (fun t ht => (hlkp (some d) v t fun dd hdd q => by injection hdd with hdd; subst hdd; exact (hdp d hd p hp).1 (by rw [q]; exact ht)).symm) (bxSame_refl _ _), ?_⟩
    rw [← h2]; exact hlkp (some d) v _ fun dd hdd q => by injection hdd with hdd; subst hdd; exact (hdp d hd p hp).2 q.symm
  · cases x with
    | p d cs op => exact absurd rfl hs
    | ld d cs y m agg => exact absurd rfl hs
    | qc d cs y ys => exact absurd rfl hs
    | a d act =>
      have hW := D.W
      simp only [List.map_cons, WSD] at hW
      have hw := A.wpD_wp (d := d) hW (ea.map EA.hp)
      have hop : ∀ y ∈ act.reads, ev e y = ev (eaE ea ++ er (pre.map (·.2.1)) e) y := fun y hy => ev_congr fun t ht => (hreal t (List.mem_append_left _ (mem_tsOf (xs := act.reads) hy t ht))).symm
      rw [A.wp_congr hop] at hw
      refine one_sound (K := fun e1 bx1 own1 u1 => ∃ v own', e1 = putd d v (eaE ea ++ er (pre.map (·.2.1)) e) ∧ own1 = own' ++ ea.map EA.hp ∧ WSD P K (B.map (·.2)) (putd d v e) bx1 own' u1 ∧ mle u u1 ∧ bxR (.a d act) bx bx1) ho (.inl hgd) hc ?_ D.F D.gX D.I ?_
      · simp only [WS0]
        refine A.wp_mono (act := act) hw fun v bx1 own1 u1 q => ?_
        obtain ⟨own', q1, q2, q3, q4⟩ := q
        exact ⟨v, own', rfl, q1, q2, q3, q4⟩
      · rintro e1 bx1 own1 u1 a1 w1 ⟨v, own', rfl, rfl, hW1, hle, hbx⟩ f1 g1 i1
        refine k _ _ _ _ _ _ a1 w1 (D.done S h (x := .a d act) (d := d) hun rfl hU hne (fun q hq => D.inL q (mem_md hq)) (fun p hp q hq => D.prs p hp q (List.mem_cons_of_mem _ hq)) hpr.2 D.st D.nd D.ndd heaB D.eaD hW1 (fun p hp => ?_) (f1.same (hlkE d v (fun dd hdd => hdd))) (by cases d <;> rfl) rfl g1 i1)
        obtain ⟨h1, h2⟩ := D.G p hp
        have hconf : bxConf p.1.2 (.a d act) = false := by
          rcases pairOK_alt (D.prs p hp (j, .a d act) (by simp)) with r | r
          · exact absurd r (hprun p hp)
          · exact r.2
        refine ⟨gives_congr (gives_up h1 hle) (fun t ht => (hlkp d v t fun dd hdd q => (hdp dd hdd p hp).1 (by rw [q]; exact ht)).symm) (hbx _ hconf), ?_⟩
        rw [← h2]; exact hlkp d v _ fun dd hdd q => (hdp dd hdd p hp).2 q.symm

theorem DI.advs (S : Stat P n ops σF cl L) {B : List (Nat × I0)} : ∀ (A : List (Nat × I0)) {pre : PreL} {ea : List EA} {e : Env} {bx : List Box}, DI P n ops σF cl L K cx listed pre (A ++ B) ea σ gs e bx own u a w → (∀ p ∈ A, isE cl L p = true ∨ ∃ q ∈ ea, q.item = p) →
    ∃ pre' ea' e' bx', DI P n ops σF cl L K cx listed pre' B ea' σ gs e' bx' own u a w ∧ ∀ q ∈ ea', q ∈ ea
  | [], pre, ea, e, bx, D, _ => ⟨pre, ea, e, bx, D, fun q hq => hq⟩
  | x :: A, pre, ea, e, bx, D, hs => by
    rcases hs x (by simp) with h1 | ⟨q, hq, hqx⟩
    · obtain ⟨d, v, D1⟩ := D.adv S h1
      exact advs S A D1 (fun p hp => hs p (List.mem_cons_of_mem _ hp))
    · obtain ⟨ea1, D1, k1, k2⟩ := D.advB S hq hqx
      have hpr := D.prr
      simp only [List.cons_append, pairsOK, Bool.and_eq_true, List.all_eq_true] at hpr
      obtain ⟨pre', ea', e', bx', D2, k3⟩ := advs S A D1 (fun p hp => by
        rcases hs p (List.mem_cons_of_mem _ hp) with h1 | ⟨r, hr, hrp⟩
        · exact .inl h1
        · refine .inr ⟨r, k1 r hr fun e => ?_, hrp⟩
          subst e
          exact pairOK_idx (hpr.1 p (List.mem_append_left _ hp)) (by rw [← hqx, ← hrp]))
      exact ⟨pre', ea', e', bx', D2, fun q hq => k2 q (k3 q hq)⟩

/-- whatever is ready -/
theorem DI.step (S : Stat P n ops σF cl L) (D : DI P n ops σF cl L K cx listed pre rest ea σ gs e bx own u a w) {j : Nat} (h : j ∈ Region.ready .any ops listed) {next : Act → World → Prop} {Q : Exit → Act → World → Prop}
    (k : ∀ pre' rest' ea' σ' gs' e' bx' own' u' a' w', DI P n ops σF cl L K cx (listed.setIfInBounds j true) pre' rest' ea' σ' gs' e' bx' own' u' a' w' → next a' w') : wpOp P ops Q j next a w := by
  obtain ⟨h1, h2, h3⟩ := ready_iff h
  obtain ⟨p, hp, hpj⟩ := (D.lst j h1).1 h2
  rcases hp with hp | ⟨hp, hpea⟩
  · obtain ⟨q, hq, rfl⟩ := List.mem_map.1 hp
    exact D.exec_pre S h hq hpj fun pre' σ' gs' a' w' D' => k _ _ _ _ _ _ _ _ _ _ _ D'
  · obtain ⟨j', x⟩ := p
    simp only at hpj
    subst hpj
    by_cases hb : isB x = true
    · cases x with
      | p d cs op => cases hb
      | ld d cs y m agg => cases hb
      | qc d cs y ys => cases hb
      | a d act =>
        cases d with
        | none => cases hb
        | some d =>
          cases act with
          | box nm T z => exact D.exec_early S h hp hpea fun ea' σ' gs' a' w' D' => k _ _ _ _ _ _ _ _ _ _ _ D'
          | call => cases hb
          | callv => cases hb
          | boxv => cases hb
          | bst => cases hb
          | ost => cases hb
          | bsp => cases hb
          | app => cases hb
          | mkm => cases hb
          | lkm => cases hb
          | upm => cases hb
    · have hb : isB x = false := by simpa using hb
      obtain ⟨A, B, rfl⟩ := List.append_of_mem hp
      obtain ⟨hA, hB, _⟩ := pairsOK_mem D.prr
      have hstA : ∀ q ∈ A, isE cl L q = true ∨ ∃ r ∈ ea, r.item = q := fun q hq => by
        by_cases hql : ∃ r ∈ ea, r.j = q.1
        · obtain ⟨r, hr, hrj⟩ := hql
          exact .inr ⟨r, hr, (S.uniq r.item (D.inL _ (List.mem_append_right _ (D.eaR r hr))) q (D.inL q (List.mem_append_right _ (List.mem_append_left _ hq)))).1 hrj⟩
        · rcases pairOK_alt (hA q hq) with r | ⟨r | r, _⟩
          · exfalso
            have hl := D.closed S h _ r
            rw [D.un S (.inr ⟨List.mem_append_left _ hq, fun r hr hrj => hql ⟨r, hr, hrj⟩⟩)] at hl; cases hl
          · exact .inl r
          · simp only at r; rw [hb] at r; cases r
      obtain ⟨pre', ea', e', bx', D', _⟩ := D.advs S A hstA
      exact D'.exec_head S h hb fun σ' gs' e2 bx2 own2 u2 a2 w2 D3 => k _ _ _ _ _ _ _ _ _ _ _ D3

/-- while something is left, something is ready -/
theorem DI.ready (S : Stat P n ops σF cl L) (D : DI P n ops σF cl L K cx listed pre rest ea σ gs e bx own u a w) (h : Region.ready .any ops listed = []) : ∀ j, j < ops.size → listed.getD j true = true := by
  intro j
  induction j using Nat.strongRecOn with
  | _ j ih =>
    intro hj
    cases hl : listed.getD j true with
    | true => rfl
    | false =>
      exfalso
      obtain ⟨p, hp, hpj⟩ := (D.lst j hj).1 hl
      have hip := S.items p (D.inL p hp.mem)
      have ho : ops[p.1]? = some ops[j] := by rw [hpj]; exact Array.getElem?_eq_getElem hj
      simp only [itemOK, ho, Bool.and_eq_true] at hip
      have hedge : ∀ d ∈ bindsOn ops[j], d < j := fun d hd => by
        have := List.all_eq_true.1 hip.1.2 d hd
        rw [hpj] at this
        simpa using this
      have : j ∈ Region.ready .any ops listed := by
        unfold Region.ready
        simp only [List.mem_filter, List.mem_range, Bool.and_eq_true, Bool.not_eq_true']
        refine ⟨hj, hl, ?_⟩
        rw [Array.getElem?_eq_getElem hj]
        simp only [Option.map_some, Option.getD_some, Array.all_eq_true']
        intro ed hed
        cases hb : Region.binds .any ed with
        | false => rfl
        | true =>
          have hd : ed.on < j := hedge ed.on (List.mem_map.2 ⟨ed, List.mem_filter.2 ⟨by simpa using hed, hb⟩, rfl⟩)
          have h1 := ih ed.on hd (by omega)
          have h2 : ed.on < listed.size := by rw [D.size]; omega
          simp only [Array.getD, h2, dif_pos] at h1 ⊢
          simpa using h1
      rw [h] at this; cases this

theorem DI.fin (S : Stat P n ops σF cl L) (D : DI P n ops σF cl L K cx listed pre rest ea σ gs e bx own u a w) (hl : ∀ j, j < ops.size → listed.getD j true = true) {R : Prop}
    (hQ : ∀ e bx own u σ, K e bx own u → FitsC n σ e a → (∀ t, csOf σ t = csOf σF t) → Inv cx (props bx own) u w → R) : R := by
  have hno : ∀ p, ¬ Un pre rest ea p := fun p hp => by
    have := D.un S hp
    rw [hl p.1 (S.idx (D.inL p hp.mem))] at this; cases this
  have hall : ∀ p ∈ rest, isE cl L p = true ∨ ∃ q ∈ ea, q.item = p := fun p hp => by
    by_cases hql : ∃ r ∈ ea, r.j = p.1
    · obtain ⟨r, hr, hrj⟩ := hql
      exact .inr ⟨r, hr, (S.uniq r.item (D.inL _ (List.mem_append_right _ (D.eaR r hr))) p (D.inL p (List.mem_append_right _ hp))).1 hrj⟩
    · exact absurd (.inr ⟨hp, fun r hr hrj => hql ⟨r, hr, hrj⟩⟩) (hno p)
  have hpre : pre = [] := by
    cases pre with
    | nil => rfl
    | cons q r => exact absurd (.inl (by simp)) (hno q.1)
  subst hpre
  have hallB : ∀ p ∈ rest, ∃ q ∈ ea, q.item = p := fun p hp => by
    by_cases hql : ∃ r ∈ ea, r.j = p.1
    · obtain ⟨r, hr, hrj⟩ := hql
      exact ⟨r, hr, (S.uniq r.item (D.inL _ (List.mem_append_right _ (D.eaR r hr))) p (D.inL p (List.mem_append_right _ hp))).1 hrj⟩
    · exact absurd (.inr ⟨hp, fun r hr hrj => hql ⟨r, hr, hrj⟩⟩) (hno p)
  obtain ⟨pre', ea', e', bx', D', _⟩ := DI.advs (B := []) S rest (by rw [List.append_nil]; exact D) hall
  have hpre' : pre' = [] := by
    cases pre' with
    | nil => rfl
    | cons q r =>
      have := D'.un S (p := q.1) (.inl (by simp))
      rw [hl _ (S.idx (D'.inL q.1 (by simp)))] at this; cases this
  have hea' : ea' = [] := by
    cases ea' with
    | nil => rfl
    | cons q r => have := D'.eaR q (by simp); cases this
  subst hpre'
  subst hea'
  have he : ∀ t, lk (eaE [] ++ er (([] : PreL).map (·.2.1)) e') t = lk e' t := fun t => by
    show lk (er [] e') t = _
    rw [lk_er]; simp
  refine hQ e' bx' own u σ D'.W (D'.F.same fun t => (he t).symm) (fun t => D'.sX t fun p hp => ?_) (by simpa using D'.I)
  exact absurd (by rw [hl _ (S.idx (D'.inL p hp.mem))] : listed.getD p.1 true = true) (by rw [D'.un S hp]; simp)

def undone (listed : Array Bool) (m : Nat) : Nat := ((List.range m).filter fun j => !(listed.getD j true)).length
theorem undone_zero {listed : Array Bool} {m : Nat} (h : undone listed m = 0) : ∀ j, j < m → listed.getD j true = true := by
  intro j hj
  unfold undone at h
  have := List.eq_nil_of_length_eq_zero h
  rw [List.filter_eq_nil_iff] at this
  have := this j (List.mem_range.2 hj)
  simpa using this
theorem undone_lt {listed : Array Bool} {m j : Nat} (hj : j < m) (hs : j < listed.size) (h : listed.getD j true = false) : undone (listed.setIfInBounds j true) m < undone listed m := by
  unfold undone
  have : (List.range m).filter (fun k => !((listed.setIfInBounds j true).getD k true)) = ((List.range m).filter fun k => !(listed.getD k true)).filter fun k => k != j := by
    rw [List.filter_filter]
    refine List.filter_congr fun k _ => ?_
    rw [getD_set hs]
    by_cases hk : k = j
    · simp [hk]
    · simp [hk]
  rw [this, List.length_filter_lt_length_iff_exists]
  exact ⟨j, by rw [List.mem_filter]; exact ⟨List.mem_range.2 hj, by rw [h]; rfl⟩, by simp⟩

theorem DI.any (S : Stat P n ops σF cl L) {Q : Exit → Act → World → Prop} (hQ : ∀ e bx own u σ a w, K e bx own u → FitsC n σ e a → (∀ t, csOf σ t = csOf σF t) → Inv cx (props bx own) u w → Q .normal a w) :
    ∀ (fuel : Nat) {listed : Array Bool} {pre : PreL} {rest : List (Nat × I0)} {ea : List EA} {σ : List (Nat × Gd)} {gs : List Nat} {e : Env} {bx : List Box} {own : List HP} {u : Mem} {a : Act} {w : World}, DI P n ops σF cl L K cx listed pre rest ea σ gs e bx own u a w → undone listed ops.size ≤ fuel → wpAny P .any ops Q fuel listed a w := by
  intro fuel
  induction fuel with
  | zero =>
    intro listed pre rest ea σ gs e bx own u a w D hl
    have hz := undone_zero (Nat.le_zero.1 hl)
    refine ⟨?_, D.fin S hz fun e bx own u σ h1 h2 h3 h4 => hQ e bx own u σ a w h1 h2 h3 h4⟩
    cases hr : Region.ready .any ops listed with
    | nil => rfl
    | cons j r =>
      obtain ⟨q1, q2, _⟩ := ready_iff (listed := listed) (ops := ops) (j := j) (by rw [hr]; simp)
      rw [hz j q1] at q2; cases q2
  | succ fuel ih =>
    intro listed pre rest ea σ gs e bx own u a w D hl
    refine ⟨fun hr => ?_, fun j hj => ?_⟩
    · exact D.fin S (D.ready S hr) fun e bx own u σ h1 h2 h3 h4 => hQ e bx own u σ a w h1 h2 h3 h4
    · obtain ⟨q1, q2, _⟩ := ready_iff hj
      have := undone_lt (m := ops.size) q1 (by rw [D.size]; exact q1) q2
      exact D.step S hj fun pre' rest' ea' σ' gs' e' bx' own' u' a' w' D' => ih D' (by omega)
end

theorem uniq_of {cl : List (List Nat)} {L0 : List (Nat × I0)} : ∀ {L : List (Nat × I0)}, pairsOK cl L0 L = true → ∀ p ∈ L, ∀ q ∈ L, (p.1 = q.1 → p = q) ∧ (∀ d, dstOf p.2 = some d → dstOf q.2 = some d → p = q)
  | [], _, p, hp, _, _ => by cases hp
  | x :: L, h, p, hp, q, hq => by
    simp only [pairsOK, Bool.and_eq_true, List.all_eq_true] at h
    rcases List.mem_cons.1 hp with hp1 | hp1
    · rcases List.mem_cons.1 hq with hq1 | hq1
      · rw [hp1, hq1]; exact ⟨fun _ => rfl, fun _ _ _ => rfl⟩
      · rw [hp1]
        have := h.1 q hq1
        exact ⟨fun e => absurd e (pairOK_idx this), fun d h1 h2 => absurd h1 (pairOK_dst this h2)⟩
    · rcases List.mem_cons.1 hq with hq1 | hq1
      · rw [hq1]
        have := h.1 p hp1
        exact ⟨fun e => absurd e.symm (pairOK_idx this), fun d h1 h2 => absurd h2 (pairOK_dst this h1)⟩
      · exact uniq_of h.2 p hp1 q hq1
theorem sig_lk {cl : List (List Nat)} {L0 : List (Nat × I0)} : ∀ {L : List (Nat × I0)}, pairsOK cl L0 L = true → ∀ p ∈ L, ∀ d, dstOf p.2 = some d → csOf (sig (L.map (·.2))) d = p.2.cs
  | [], _, p, hp, _, _ => by cases hp
  | x :: L, h, p, hp, d, hd => by
    simp only [pairsOK, Bool.and_eq_true, List.all_eq_true] at h
    simp only [List.map_cons, sig]
    rcases List.mem_cons.1 hp with rfl | hp
    · rw [hd]; exact csOf_cons_same _ _ _
    · have ih := sig_lk h.2 p hp d hd
      have hne := pairOK_dst (h.1 p hp) hd
      cases hx : dstOf x.2 with
      | none => exact ih
      | some dx =>
        show csOf ((dx, x.2.cs) :: _) d = _
        rw [csOf_cons_ne (fun q => hne (by rw [hx, q]))]; exact ih
theorem sig_none : ∀ {l : List I0} {t : Nat}, (∀ x ∈ l, dstOf x ≠ some t) → csOf (sig l) t = []
  | [], _, _ => rfl
  | x :: l, t, h => by
    simp only [sig]
    have ih := sig_none (l := l) (t := t) fun y hy => h y (List.mem_cons_of_mem _ hy)
    cases hx : dstOf x with
    | none => exact ih
    | some d =>
      show csOf ((d, x.cs) :: _) t = _
      rw [csOf_cons_ne (fun q => h x (by simp) (by rw [hx, q]))]; exact ih

theorem drawOK {P : Program} {n : Nat} (hm : P.follows .mixedOrders = true) : DrawOK P n (chkD P n) := by
  intro ops ord l live id lb K e bx own u cx a w hc hW f i
  simp only [chkD, Bool.and_eq_true, List.all_eq_true] at hc
  obtain ⟨⟨⟨⟨⟨⟨hlen, hsz⟩, hall⟩, hcl⟩, hpairs⟩, hitems⟩, hlive⟩ := hc
  have hlen : ord.length = l.length := by simpa using hlen
  have hmap2 : (ord.zip l).map (·.2) = l := List.map_snd_zip (by omega)
  have hmap1 : (ord.zip l).map (·.1) = ord := List.map_fst_zip (by omega)
  have S : Stat P n ops (sig l) (clos ops) (ord.zip l) := ⟨hcl, hitems, fun p hp d hd => by have := sig_lk hpairs p hp d hd; rwa [hmap2] at this, uniq_of hpairs⟩
  refine wp_region_any hm ?_
  refine DI.any (σF := sig l) (cl := clos ops) (L := ord.zip l) (K := fun e bx own u => K (restr e live) (keepB lb bx) own u) (cx := cx) S ?_ ops.size (pre := []) (rest := ord.zip l) (ea := []) (σ := []) (gs := []) (e := e) (bx := bx) (own := own) (u := u) ?_ ?_
  · intro e' bx' own' u' σ a' w' hK f' hσ i'
    refine ⟨_, _, _, _, hK, f'.restr (List.all_eq_true.2 fun t ht => ?_), i'.keepB⟩
    rw [hσ]; exact hlive t ht
  · have hun : ∀ p, Un [] (ord.zip l) [] p ↔ p ∈ ord.zip l := fun p => by simp [Un]
    refine ⟨by simp, fun j hj => ?_, fun j i hj hl => ?_, fun p hp => by simpa using hp, fun p hp => (by cases hp), hpairs, fun p hp => (by cases hp), by simp, by simp, fun q hq => (by cases hq), by simp, ?_, fun p hp => (by cases hp), ?_, fun t ht => ?_, fun t p hp hd => rfl, fun t p hp => (by cases hp), fun g hg => (by cases hg), by rw [List.map_nil, List.append_nil]; exact i.same rfl rfl rfl rfl⟩
    · have : (Array.replicate ops.size false).getD j true = false := by simp [Array.getD, hj]
      rw [this]
      simp only [true_iff]
      have := hall j (List.mem_range.2 hj)
      have hjo : j ∈ ord := List.contains_iff_mem.1 this
      rw [← hmap1] at hjo
      obtain ⟨p, hp, hpj⟩ := List.mem_map.1 hjo
      exact ⟨p, (hun p).2 hp, hpj⟩
    · have : (Array.replicate ops.size false).getD j true = false := by simp [Array.getD, hj]
      rw [this] at hl; cases hl
    · rw [hmap2]; exact hW
    · have he : ∀ t, lk (eaE [] ++ er (([] : PreL).map (·.2.1)) e) t = lk e t := fun t => by
        show lk (er [] e) t = _
        rw [lk_er]; simp
      exact f.same he
    · show [] = _
      rw [sig_none]
      intro x hx
      rw [← hmap2] at hx
      obtain ⟨p, hp, rfl⟩ := List.mem_map.1 hx
      exact ht p ((hun p).2 hp)
  · unfold undone
    exact Nat.le_trans (List.length_filter_le _ _) (by simp)
end Go.Proofs.YtenmmfkgopffgaaGreatDoor
