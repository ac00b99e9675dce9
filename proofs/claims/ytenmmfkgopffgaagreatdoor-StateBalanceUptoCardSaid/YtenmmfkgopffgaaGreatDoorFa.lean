/- Separation-style base: persistent memory u, owned resources as a list of heap predicates, the invariant of a walk, and the form of a contract. -/
import Derived.Orders
import Derived.KernelRfl
import Derived.Below
set_option linter.unusedVariables false
set_option linter.unusedSimpArgs false
namespace Go.Proofs.YtenmmfkgopffgaaGreatDoor
open Go

abbrev Mem := Nat → Option Obj
abbrev HP := Mem → Prop

def mle (u v : Mem) : Prop := ∀ b o, u b = some o → v b = some o
theorem mle_refl (u : Mem) : mle u u := fun _ _ h => h
theorem mle_trans {a b c : Mem} (h : mle a b) (k : mle b c) : mle a c := fun x o e => k x o (h x o e)

/-- h is the disjoint union of h1 and h2. -/
def spl (h h1 h2 : Mem) : Prop := ∀ b, (h1 b = none ∧ h b = h2 b) ∨ (h2 b = none ∧ h b = h1 b)
def emp : HP := fun h => ∀ b, h b = none
def Blk (b : Nat) (o : Obj) : HP := fun h => h b = some o ∧ ∀ c, c ≠ b → h c = none
def Star : List HP → HP
  | [] => emp
  | H :: r => fun h => ∃ h1 h2, spl h h1 h2 ∧ H h1 ∧ Star r h2

theorem spl_comm {h h1 h2 : Mem} (s : spl h h1 h2) : spl h h2 h1 := fun b => (s b).symm
theorem spl_assoc {h h1 h23 h2 h3 : Mem} (s : spl h h1 h23) (t : spl h23 h2 h3) : ∃ h12, spl h h12 h3 ∧ spl h12 h1 h2 := by
  refine ⟨fun b => (h1 b).or (h2 b), fun b => ?_, fun b => ?_⟩ <;>
    (have hs := s b; have ht := t b; cases e1 : h1 b <;> cases e2 : h2 b <;> cases e3 : h3 b <;> simp_all)
theorem spl_assoc' {h h12 h3 h1 h2 : Mem} (s : spl h h12 h3) (t : spl h12 h1 h2) : ∃ h23, spl h h1 h23 ∧ spl h23 h2 h3 := by
  obtain ⟨k, a, b⟩ := spl_assoc (spl_comm s) (spl_comm t)
  exact ⟨k, spl_comm a, spl_comm b⟩
theorem spl_emp_left {h h1 h2 : Mem} (s : spl h h1 h2) (e : emp h1) : h = h2 := funext fun b => by
  rcases s b with ⟨_, hb⟩ | ⟨h2b, hb⟩
  · exact hb
  · rw [hb, e b, h2b]
theorem spl_of_emp {h h1 : Mem} (e : emp h1) : spl h h1 h := fun b => .inl ⟨e b, rfl⟩

theorem Star_cons_iff {H : HP} {r : List HP} {h : Mem} : Star (H :: r) h ↔ ∃ h1 h2, spl h h1 h2 ∧ H h1 ∧ Star r h2 := Iff.rfl
theorem Star_append {a b : List HP} {h : Mem} : Star (a ++ b) h ↔ ∃ h1 h2, spl h h1 h2 ∧ Star a h1 ∧ Star b h2 := by
  induction a generalizing h with
  | nil =>
    constructor
    · intro s
      exact ⟨fun _ => none, h, fun b => .inl ⟨rfl, rfl⟩, fun _ => rfl, s⟩
    · rintro ⟨h1, h2, s, e, t⟩
      rw [spl_emp_left s e]; exact t
  | cons H a ih =>
    constructor
    · rintro ⟨h1, h2, s, hH, t⟩
      obtain ⟨k1, k2, s', ha, hb⟩ := ih.1 t
      obtain ⟨h12, s1, s2⟩ := spl_assoc s s'
      exact ⟨h12, k2, s1, ⟨h1, k1, s2, hH, ha⟩, hb⟩
    · rintro ⟨h1, h2, s, ⟨k1, k2, s', hH, ha⟩, hb⟩
      obtain ⟨k, a1, a2⟩ := spl_assoc' s s'
      exact ⟨k1, k, a1, hH, ih.2 ⟨k2, h2, a2, ha, hb⟩⟩
theorem Star_perm {a b : List HP} (p : List.Perm a b) : ∀ {h : Mem}, Star a h → Star b h := by
  induction p with
  | nil => exact id
  | cons x _ ih => rintro h ⟨h1, h2, s, hx, t⟩; exact ⟨h1, h2, s, hx, ih t⟩
  | swap x y l =>
    rintro h ⟨h1, h2, s, hx, k1, k2, s', hy, t⟩
    obtain ⟨k, a1, a2⟩ := spl_assoc s s'
    obtain ⟨k', b1, b2⟩ := spl_assoc' a1 (spl_comm a2)
    exact ⟨k1, k', b1, hy, h1, k2, b2, hx, t⟩
  | trans _ _ ih1 ih2 => exact fun s => ih2 (ih1 s)

def has (w : World) (h : Mem) : Prop := ∀ b o, h b = some o → w.heap[b]? = some o
theorem has_lt {w : World} {h : Mem} (k : has w h) {b : Nat} (hb : h b ≠ none) : b < w.heap.size := by
  cases e : h b with
  | none => exact absurd e hb
  | some o => exact (Array.getElem?_eq_some_iff.1 (k b o e)).1

structure Ctx where
  w : World
  h : Mem
  u : Mem

/-- What holds of the world at each point of a walk that began at cx: the owned resources L and the persistent memory u lie in it, apart; what was there at the start and is not owned is as it was. -/
structure Inv (cx : Ctx) (L : List HP) (u : Mem) (w : World) : Prop where
  heap : ∃ h, Star L h ∧ (∀ b, u b = none ∨ h b = none) ∧ has w h ∧ (∀ b, h b ≠ none → cx.h b ≠ none ∨ cx.w.heap.size ≤ b)
  hu : has w u
  ule : mle cx.u u
  unew : ∀ b, u b ≠ none → cx.u b ≠ none ∨ cx.h b ≠ none ∨ cx.w.heap.size ≤ b
  os : w.os = cx.w.os
  tape : w.tape = cx.w.tape
  output : w.output = cx.w.output
  size : cx.w.heap.size ≤ w.heap.size
  keep : ∀ b, b < cx.w.heap.size → cx.h b = none → w.heap[b]? = cx.w.heap[b]?

theorem Inv.conseq {cx : Ctx} {L L' : List HP} {u : Mem} {w : World} (i : Inv cx L u w) (p : ∀ h, Star L h → Star L' h) : Inv cx L' u w := by
  obtain ⟨⟨h, s, r⟩, a, b, c, d, e, f, g, k⟩ := i
  exact ⟨⟨h, p h s, r⟩, a, b, c, d, e, f, g, k⟩
theorem Inv.perm {cx : Ctx} {L L' : List HP} {u : Mem} {w : World} (i : Inv cx L u w) (p : List.Perm L L') : Inv cx L' u w := i.conseq fun _ => Star_perm p

/-- A walk's beginning. -/
theorem Inv.start {L : List HP} {u h : Mem} {w : World} (s : Star L h) (d : ∀ b, u b = none ∨ h b = none) (kh : has w h) (ku : has w u) : Inv ⟨w, h, u⟩ L u w :=
  ⟨⟨h, s, d, kh, fun b hb => .inl hb⟩, ku, mle_refl u, fun b hb => .inl hb, rfl, rfl, rfl, Nat.le_refl _, fun _ _ _ => rfl⟩

/-- A call of it is entered: it has a body. -/
def Ent (P : Program) (f : FuncId) : Prop := ∃ fn, P.funcs[f]? = some fn ∧ (fn.name == "runtime.NumGoroutine") = false ∧ fn.body.isNone = false

/-- THE CONTRACT: called with these arguments, owning these resources, in a world that bears u, f returns v and leaves own', u' with Q; nothing else turns. -/
def Fn (P : Program) (f : FuncId) (args : List Value) (own : List HP) (u : Mem) (Q : Value → List HP → Mem → Prop) : Prop :=
  Ent P f ∧ ∀ w h, Star own h → (∀ b, u b = none ∨ h b = none) → has w h → has w u →
    Calls P f args.toArray w fun e w' => ∃ v own' u', e = .returned v ∧ Q v own' u' ∧ Inv ⟨w, h, u⟩ own' u' w'

theorem Fn.mono {P : Program} {f : FuncId} {args : List Value} {own : List HP} {u : Mem} {Q Q' : Value → List HP → Mem → Prop} (h : Fn P f args own u Q) (q : ∀ v o u', Q v o u' → Q' v o u') : Fn P f args own u Q' :=
  ⟨h.1, fun w hh a b c d => (h.2 w hh a b c d).mono fun e w' ⟨v, o, u', he, hq, hi⟩ => ⟨v, o, u', he, q _ _ _ hq, hi⟩⟩

/-- The frame: what is not handed to the callee stays. -/
theorem Inv.call {cx : Ctx} {L L1 L2 L1' : List HP} {u u' : Mem} {w w' : World} {h1 h2 h : Mem} (i : Inv cx L u w) (hs : Star L h) (hd : ∀ b, u b = none ∨ h b = none) (hh : has w h)
    (hn : ∀ b, h b ≠ none → cx.h b ≠ none ∨ cx.w.heap.size ≤ b) (s : spl h h1 h2) (s1 : Star L1 h1) (s2 : Star L2 h2) (j : Inv ⟨w, h1, u⟩ L1' u' w') : Inv cx (L1' ++ L2) u' w' := by
  obtain ⟨⟨h1', t1, d1, hh1, n1⟩, hu', ule', unew', os', tape', out', size', keep'⟩ := j
  simp only at ule' unew' os' tape' out' size' keep' n1
  have hh2 : has w h2 := fun b o e => hh b o (by rcases s b with ⟨_, q⟩ | ⟨q, _⟩; · rw [q]; exact e
                                                 · rw [q] at e; cases e)
  have hsub : ∀ b, h1 b ≠ none → h b ≠ none := fun b hb => by
    rcases s b with ⟨q, _⟩ | ⟨_, q⟩
    · exact absurd q hb
    · rw [q]; exact hb
  have hsub2 : ∀ b, h2 b ≠ none → h b ≠ none := fun b hb => by
    rcases s b with ⟨_, q⟩ | ⟨q, _⟩
    · rw [q]; exact hb
    · exact absurd q hb
  have h12 : ∀ b, h2 b ≠ none → h1 b = none := fun b hb => by
    rcases s b with ⟨q, _⟩ | ⟨q, _⟩
    · exact q
    · exact absurd q hb
  have hlt2 : ∀ b, h2 b ≠ none → b < w.heap.size := fun b hb => has_lt hh2 hb
  have hdis : ∀ b, h2 b ≠ none → h1' b = none := fun b hb => by
    cases e : h1' b with
    | none => rfl
    | some o =>
      rcases n1 b (by simp [e]) with q | q
      · exact absurd (h12 b hb) q
      · have := hlt2 b hb; omega
  refine ⟨⟨fun b => (h1' b).or (h2 b), Star_append.2 ⟨h1', h2, fun b => ?_, t1, s2⟩, fun b => ?_, fun b o e => ?_, fun b hb => ?_⟩, hu', mle_trans i.ule ule', fun b hb => ?_, os'.trans i.os, tape'.trans i.tape, out'.trans i.output, Nat.le_trans i.size size', fun b hb hc => ?_⟩
  · by_cases e2 : h2 b = none
    · right; simp [e2]
    · left; simp [hdis b e2]
  · by_cases e2 : h2 b = none
    · rcases d1 b with q | q
      · exact .inl q
      · right; simp [q, e2]
    · left
      cases e : u' b with
      | none => rfl
      | some o =>
        rcases unew' b (by simp [e]) with q | q | q
        · rcases hd b with r | r
          · exact absurd r q
          · exact absurd r (hsub2 b e2)
        · exact absurd (h12 b e2) q
        · have := hlt2 b e2; omega
  · by_cases e2 : h2 b = none
    · exact hh1 b o (by simpa [e2] using e)
    · have := hdis b e2
      simp [this] at e
      rw [keep' b (hlt2 b e2) (h12 b e2)]
      exact hh2 b o e
  · by_cases e2 : h2 b = none
    · have : h1' b ≠ none := by simpa [e2] using hb
      rcases n1 b this with q | q
      · exact hn b (hsub b q)
      · right; exact Nat.le_trans i.size q
    · exact hn b (hsub2 b e2)
  · rcases unew' b hb with q | q | q
    · exact i.unew b q
    · rcases hn b (hsub b q) with r | r
      · exact .inr (.inl r)
      · exact .inr (.inr r)
    · exact .inr (.inr (Nat.le_trans i.size q))
  · have hb1 : h1 b = none := by
      cases e : h1 b with
      | none => rfl
      | some o =>
        rcases hn b (hsub b (by simp [e])) with q | q
        · exact absurd hc q
        · omega
    rw [keep' b (Nat.lt_of_lt_of_le hb i.size) hb1]
    exact i.keep b hb hc

/-- A draw, and whatever else leaves the heap. -/
theorem Inv.same {cx : Ctx} {L : List HP} {u : Mem} {w w' : World} (i : Inv cx L u w) (h : w'.heap = w.heap) (ho : w'.os = w.os) (ht : w'.tape = w.tape) (hp : w'.output = w.output) : Inv cx L u w' := by
  obtain ⟨⟨k, s, d, hk, n⟩, a, b, c, e1, e2, e3, g, kp⟩ := i
  exact ⟨⟨k, s, d, fun x o e => by rw [h]; exact hk x o e, n⟩, fun x o e => by rw [h]; exact a x o e, b, c, ho.trans e1, ht.trans e2, hp.trans e3, by rw [h]; exact g, fun x hx hc => by rw [h]; exact kp x hx hc⟩

/-- A new block, owned. -/
theorem Inv.alloc {cx : Ctx} {L : List HP} {u : Mem} {w : World} (i : Inv cx L u w) (o : Obj) : Inv cx (Blk w.heap.size o :: L) u { w with heap := w.heap.push o } := by
  obtain ⟨⟨k, s, d, hk, n⟩, a, b, c, e1, e2, e3, g, kp⟩ := i
  have hnone : k w.heap.size = none := by
    cases e : k w.heap.size with
    | none => rfl
    | some q => have := has_lt hk (b := w.heap.size) (by simp [e]); omega
  have hunone : u w.heap.size = none := by
    cases e : u w.heap.size with
    | none => rfl
    | some q => have := has_lt a (b := w.heap.size) (by simp [e]); omega
  have old : ∀ (x : Nat) (q : Obj), w.heap[x]? = some q → (w.heap.push o)[x]? = some q := fun x q e => by
    have := (Array.getElem?_eq_some_iff.1 e).1
    rw [Array.getElem?_push, if_neg (by omega)]; exact e
  refine ⟨⟨fun x => if x = w.heap.size then some o else k x, ⟨fun x => if x = w.heap.size then some o else none, k, fun x => ?_, ⟨by simp, fun y hy => by simp [hy]⟩, s⟩, fun x => ?_, fun x q e => ?_, fun x hx => ?_⟩, fun x q e => old x q (a x q e), b, c, e1, e2, e3, by simp only [Array.size_push]; omega, fun x hx hc => ?_⟩
  · by_cases hx : x = w.heap.size
    · subst hx; right; simp [hnone]
    · left; simp [hx]
  · by_cases hx : x = w.heap.size
    · subst hx; exact .inl hunone
    · simpa [hx] using d x
  · by_cases hx : x = w.heap.size
    · subst hx; simp at e; subst e; simp
    · simp only [hx, if_false] at e; exact old x q (hk x q e)
  · by_cases hx' : x = w.heap.size
    · subst hx'; exact .inr g
    · simp only [hx', if_false] at hx; exact n x hx
  · show (w.heap.push o)[x]? = _
    rw [Array.getElem?_push, if_neg (by omega)]; exact kp x hx hc

/-- An owned block is there. -/
theorem Inv.at_ {cx : Ctx} {L : List HP} {u : Mem} {w : World} {b : Nat} {o : Obj} (i : Inv cx L u w) (m : Blk b o ∈ L) : w.heap[b]? = some o := by
  obtain ⟨⟨k, s, d, hk, n⟩, _⟩ := i
  obtain ⟨l1, l2, rfl⟩ := List.append_of_mem m
  have := Star_perm (List.perm_middle) s
  obtain ⟨h1, h2, sp, hb, _⟩ := this
  refine hk b o ?_
  rcases sp b with ⟨q, _⟩ | ⟨_, q⟩
  · rw [hb.1] at q; cases q
  · rw [q]; exact hb.1

/-- An owned block is written. -/
theorem Inv.write {cx : Ctx} {L : List HP} {u : Mem} {w : World} {b : Nat} {o o' : Obj} {w' : World} (i : Inv cx (Blk b o :: L) u w) (h1 : w'.heap[b]? = some o') (h2 : ∀ c, c ≠ b → w'.heap[c]? = w.heap[c]?) (hz : w'.heap.size = w.heap.size)
    (ho : w'.os = w.os) (ht : w'.tape = w.tape) (hp : w'.output = w.output) : Inv cx (Blk b o' :: L) u w' := by
  obtain ⟨⟨k, ⟨k1, k2, sp, hb, s⟩, d, hk, n⟩, a, bb, c, e1, e2, e3, g, kp⟩ := i
  have hkb : k b = some o := by
    rcases sp b with ⟨q, _⟩ | ⟨_, q⟩
    · rw [hb.1] at q; cases q
    · rw [q]; exact hb.1
  have hk2b : k2 b = none := by
    rcases sp b with ⟨q, _⟩ | ⟨q, _⟩
    · rw [hb.1] at q; cases q
    · exact q
  have hub : u b = none := by
    rcases d b with q | q
    · exact q
    · rw [hkb] at q; cases q
  refine ⟨⟨fun x => if x = b then some o' else k x, ⟨fun x => if x = b then some o' else none, k2, fun x => ?_, ⟨by simp, fun y hy => by simp [hy]⟩, s⟩, fun x => ?_, fun x q e => ?_, fun x hx => ?_⟩, fun x q e => ?_, bb, c, ho.trans e1, ht.trans e2, hp.trans e3, by omega, fun x hx hc => ?_⟩
  · by_cases hx : x = b
    · subst hx; right; simp [hk2b]
    · left
      have := sp x
      simp only [hx, if_false, true_and]
      rcases this with ⟨_, q⟩ | ⟨q1, q2⟩
      · exact q
      · rw [q2, hb.2 x hx, q1]
  · by_cases hx : x = b
    · subst hx; exact .inl hub
    · simpa [hx] using d x
  · by_cases hx : x = b
    · subst hx; simp at e; subst e; exact h1
    · simp only [hx, if_false] at e; rw [h2 x hx]; exact hk x q e
  · by_cases hx' : x = b
    · subst hx'; exact n x (by simp [hkb])
    · simp only [hx', if_false] at hx; exact n x hx
  · have hx : x ≠ b := fun hx => by subst hx; rw [hub] at e; cases e
    rw [h2 x hx]; exact a x q e
  · have hx' : x ≠ b := fun e => by
      subst e
      rcases n x (by simp [hkb]) with q | q
      · exact q hc
      · omega
    rw [h2 x hx']; exact kp x hx hc

/-- An owned block is made persistent. -/
theorem Inv.freeze {cx : Ctx} {L : List HP} {u : Mem} {w : World} {b : Nat} {o : Obj} (i : Inv cx (Blk b o :: L) u w) : Inv cx L (fun x => if x = b then some o else u x) w ∧ mle u (fun x => if x = b then some o else u x) := by
  obtain ⟨⟨k, ⟨k1, k2, sp, hb, s⟩, d, hk, n⟩, a, bb, c, e1, e2, e3, g, kp⟩ := i
  have hkb : k b = some o := by
    rcases sp b with ⟨q, _⟩ | ⟨_, q⟩
    · rw [hb.1] at q; cases q
    · rw [q]; exact hb.1
  have hk2b : k2 b = none := by
    rcases sp b with ⟨q, _⟩ | ⟨q, _⟩
    · rw [hb.1] at q; cases q
    · exact q
  have hub : u b = none := by
    rcases d b with q | q
    · exact q
    · rw [hkb] at q; cases q
  have hle : mle u (fun x => if x = b then some o else u x) := fun x q e => by
    have hx : x ≠ b := fun hx => by subst hx; rw [hub] at e; cases e
    simpa [hx] using e
  have hsub : ∀ x, k2 x ≠ none → k x = k2 x := fun x hx => by
    rcases sp x with ⟨_, q⟩ | ⟨q, _⟩
    · exact q
    · exact absurd q hx
  refine ⟨⟨⟨k2, s, fun x => ?_, fun x q e => hk x q (by rw [hsub x (by simp [e])]; exact e), fun x hx => n x (by rw [hsub x hx]; exact hx)⟩, fun x q e => ?_, mle_trans bb hle, fun x hx => ?_, e1, e2, e3, g, kp⟩, hle⟩
  · by_cases hx : x = b
    · subst hx; exact .inr hk2b
    · simp only [hx, if_false]
      rcases d x with q | q
      · exact .inl q
      · right
        rcases sp x with ⟨_, r⟩ | ⟨r, _⟩
        · rw [← r]; exact q
        · exact r
  · by_cases hx : x = b
    · subst hx; simp at e; subst e; exact hk x o hkb
    · simp only [hx, if_false] at e; exact a x q e
  · by_cases hx' : x = b
    · subst hx'
      rcases n x (by simp [hkb]) with q | q
      · exact .inr (.inl q)
      · exact .inr (.inr q)
    · simp only [hx', if_false] at hx; exact c x hx
end Go.Proofs.YtenmmfkgopffgaaGreatDoor
