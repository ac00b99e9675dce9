/- Part 12 of the proofs that the program's StateBack and StateBalance return true (texts Ra Rb Sa joined): what its functions compute. -/
import Derived.Test.YtenmmfkgopffgaaGreatDoorFi
import Derived.Laws.BitsLemmas
import Derived.Test.YtenmmfkgopffgaaGreatDoorProg
import Derived.Shelf.SlSortCmp.WholeK
import Derived.Shelf.Lay
import Derived.Ground.SlsfProg
import Derived.Ground.NamesProg
import Derived.WalkKit
import Derived.Lib.Builder
import Derived.Lib.FrozenHead
import Derived.Shelf.RegionOpenPlain
import Derived.Deep.RegionHeld3
set_option linter.unusedVariables false
set_option linter.unusedSimpArgs false
namespace Go.Proofs.YtenmmfkgopffgaaGreatDoor
open Go

abbrev MP := Nat → Obj → Prop
def MU (u : Mem) : MP := fun b o => u b = some o
abbrev BS := List (Nat × Obj)
def MB (bs : BS) : MP := fun b o => (b, o) ∈ bs
def mpl (M N : MP) : Prop := ∀ b o, M b o → N b o
theorem mpl_refl (M : MP) : mpl M M := fun _ _ h => h
theorem mpl_mu {u u' : Mem} (h : mle u u') : mpl (MU u) (MU u') := h
def ownB (bs : BS) : List HP := bs.map fun p => Blk p.1 p.2
theorem ownB_app (a b : BS) : ownB (a ++ b) = ownB a ++ ownB b := List.map_append
theorem mb_left {a b : BS} : mpl (MB a) (MB (a ++ b)) := fun _ _ h => List.mem_append_left _ h
theorem mb_right {a b : BS} : mpl (MB b) (MB (a ++ b)) := fun _ _ h => List.mem_append_right _ h

def rowM (M : MP) (b o : Nat) (cells : List Value) : Prop := ∃ c T fz, M b (.cells c T fz) ∧ (c.toList.drop o).take cells.length = cells
theorem rowM.mono {M N : MP} {b o : Nat} {cells : List Value} (h : rowM M b o cells) (hl : mpl M N) : rowM N b o cells := by
  obtain ⟨c, T, fz, h1, h2⟩ := h
  exact ⟨c, T, fz, hl _ _ h1, h2⟩
theorem rowM.urow {u : Mem} {b o : Nat} {cells : List Value} (h : rowM (MU u) b o cells) : urow u b o cells := h
theorem rowM.lrow {bx : List Box} {u : Mem} {b o : Nat} {cells : List Value} (h : rowM (MU u) b o cells) : lrow bx u b o cells := .inl h
theorem rowM.part {M : MP} {b o : Nat} {cells : List Value} (h : rowM M b o cells) {i : Nat} {r : List Value} (hr : (cells.drop i).take r.length = r) (hi : i + r.length ≤ cells.length) : rowM M b (o + i) r := by
  obtain ⟨c, T, fz, h1, h2⟩ := h
  refine ⟨c, T, fz, h1, ?_⟩
  rw [← hr]
  conv => rhs; rw [← h2]
  rw [List.drop_take, List.take_take, List.drop_drop]
  have h1 : ((cells.drop i).take r.length).length = r.length := by rw [hr]
  rw [h1]
  congr 1
  omega

theorem flat_at : ∀ {css : List (List Value)} {k i : Nat}, (∀ cs ∈ css, cs.length = k) → (h : i < css.length) → (css.flatten.drop (i * k)).take k = css[i] ∧ i * k + k ≤ css.flatten.length
  | [], k, i, _, h => by simp at h
  | c :: r, k, 0, hk, h => by
    have hc : c.length = k := hk c (by simp)
    simp [← hc]
  | c :: r, k, i + 1, hk, h => by
    have hc : c.length = k := hk c (by simp)
    have ih := flat_at (css := r) (k := k) (i := i) (fun cs hcs => hk cs (by simp [hcs])) (by simpa using h)
    have e : (i + 1) * k = c.length + i * k := by rw [Nat.add_mul, hc]; omega
    simp only [List.flatten_cons, List.getElem_cons_succ, List.length_append]
    rw [e, List.drop_append, List.drop_eq_nil_of_le (by omega), List.nil_append]
    have : c.length + i * k - c.length = i * k := by omega
    rw [this]
    exact ⟨ih.1, by have := ih.2; omega⟩

def maxN : Nat := 4294967296
def SlC (M : MP) (k : Nat) (v : Value) (css : List (List Value)) : Prop :=
  ∃ a c, v = .slice a css.length c ∧ css.length ≤ maxN ∧ css.length ≤ c ∧ (css ≠ [] → ∃ b o, a = some ⟨b, o, none⟩ ∧ rowM M b o css.flatten) ∧ ∀ cs ∈ css, cs.length = k
theorem SlC.mono {M N : MP} {k : Nat} {v : Value} {css : List (List Value)} (h : SlC M k v css) (hl : mpl M N) : SlC N k v css := by
  obtain ⟨a, c, h1, h2, h3, h4, h5⟩ := h
  exact ⟨a, c, h1, h2, h3, fun q => by obtain ⟨b, o, h6, h7⟩ := h4 q; exact ⟨b, o, h6, h7.mono hl⟩, h5⟩
theorem SlC_at {M : MP} {k b o i : Nat} {css : List (List Value)} (h : rowM M b o css.flatten) (hk : ∀ cs ∈ css, cs.length = k) (hi : i < css.length) : rowM M b (o + i * k) css[i] := by
  obtain ⟨h1, h2⟩ := flat_at hk hi
  have hc : css[i].length = k := hk _ (List.getElem_mem hi)
  exact h.part (by rw [hc]; exact h1) (by rw [hc]; exact h2)

def All2 {α β : Type} (R : α → β → Prop) : List α → List β → Prop
  | [], [] => True
  | a :: r, b :: s => R a b ∧ All2 R r s
  | _, _ => False
theorem All2.len {α β : Type} {R : α → β → Prop} : ∀ {l : List α} {m : List β}, All2 R l m → l.length = m.length
  | [], [], _ => rfl
  | [], _ :: _, h => h.elim
  | _ :: _, [], h => h.elim
  | _ :: r, _ :: s, h => by simp [h.2.len]
theorem All2.mono {α β : Type} {R S : α → β → Prop} (k : ∀ a b, R a b → S a b) : ∀ {l : List α} {m : List β}, All2 R l m → All2 S l m
  | [], [], _ => trivial
  | [], _ :: _, h => h.elim
  | _ :: _, [], h => h.elim
  | _ :: r, _ :: s, h => ⟨k _ _ h.1, h.2.mono k⟩
theorem All2.at_ {α β : Type} {R : α → β → Prop} : ∀ {l : List α} {m : List β} (h : All2 R l m) {i : Nat} (hi : i < l.length) (hj : i < m.length), R l[i] m[i]
  | [], _, _, i, hi, _ => by simp at hi
  | _ :: _, [], h, _, _, _ => h.elim
  | _ :: r, _ :: s, h, 0, _, _ => h.1
  | _ :: r, _ :: s, h, i + 1, hi, hj => h.2.at_ (by simpa using hi) (by simpa using hj)
theorem All2.app {α β : Type} {R : α → β → Prop} : ∀ {l : List α} {m : List β}, All2 R l m → ∀ {a : α} {b : β}, R a b → All2 R (l ++ [a]) (m ++ [b])
  | [], [], _, _, _, h => ⟨h, trivial⟩
  | [], _ :: _, h, _, _, _ => h.elim
  | _ :: _, [], h, _, _, _ => h.elim
  | _ :: r, _ :: s, h, _, _, k => ⟨h.1, h.2.app k⟩
theorem All2.of_map {α β γ : Type} {R : α → β → Prop} {f : γ → α} {g : γ → β} (h : ∀ c, R (f c) (g c)) : ∀ l : List γ, All2 R (l.map f) (l.map g)
  | [] => trivial
  | x :: r => ⟨h x, All2.of_map h r⟩
def Sl {α : Type} (k : Nat) (R : MP → List Value → α → Prop) (M : MP) (v : Value) (xs : List α) : Prop := ∃ css, SlC M k v css ∧ All2 (R M) css xs
theorem Sl.mono {α : Type} {k : Nat} {R : MP → List Value → α → Prop} (hR : ∀ (M N : MP) (cs : List Value) (x : α), R M cs x → mpl M N → R N cs x) {M N : MP} {v : Value} {xs : List α} (h : Sl k R M v xs) (hl : mpl M N) : Sl k R N v xs := by
  obtain ⟨css, h1, h2⟩ := h
  exact ⟨css, h1.mono hl, h2.mono fun _ _ q => hR _ _ _ _ q hl⟩
def SlF {α : Type} (k : Nat) (f : α → List Value) (M : MP) (v : Value) (xs : List α) : Prop := SlC M k v (xs.map f)
theorem SlF.mono {α : Type} {k : Nat} {f : α → List Value} {M N : MP} {v : Value} {xs : List α} (h : SlF k f M v xs) (hl : mpl M N) : SlF k f N v xs := SlC.mono h hl
theorem wrapI {n : Int} (h0 : -9223372036854775808 ≤ n) (h1 : n ≤ 9223372036854775807) : IntKind.i64.wrap n = n := by rw [IntKind.wrap_i64]; omega
theorem wrapS {i m : Nat} (h : i < m) (hm : m ≤ maxN) : IntKind.i64.wrap ((i : Int) + 1) = ((i + 1 : Nat) : Int) := by
  unfold maxN at hm
  rw [wrapI (by omega) (by omega)]; rfl
theorem map_ne {α β : Type} {f : α → β} {l : List α} {i : Nat} (h : i < l.length) : l.map f ≠ [] := by
  intro q; rw [List.map_eq_nil_iff] at q; simp [q] at h
abbrev ic (n : Int) : Value := .int .i64 n
abbrev i1 (n : Int) : List Value := [.int .i64 n]
abbrev Ints (M : MP) (v : Value) (xs : List Int) : Prop := SlF 1 i1 M v xs

theorem SlC.one {M : MP} {k : Nat} {v : Value} {css : List (List Value)} (h : SlC M k v css) : v.oneCell' = true := by obtain ⟨a, c, rfl, _⟩ := h; rfl
theorem SlF.one {α : Type} {k : Nat} {f : α → List Value} {M : MP} {v : Value} {xs : List α} (h : SlF k f M v xs) : v.oneCell' = true := SlC.one h
theorem Sl.one {α : Type} {k : Nat} {R : MP → List Value → α → Prop} {M : MP} {v : Value} {xs : List α} (h : Sl k R M v xs) : v.oneCell' = true := by obtain ⟨_, h, _⟩ := h; exact h.one
theorem Inv.frz {cx : Ctx} {L : List HP} {w : World} : ∀ {bs : BS} {u : Mem}, Inv cx (ownB bs ++ L) u w → ∃ u', Inv cx L u' w ∧ mle u u' ∧ mpl (MB bs) (MU u')
  | [], u, i => ⟨u, i, mle_refl _, fun _ _ h => by cases h⟩
  | (b, o) :: bs, u, i => by
    obtain ⟨i1, l1⟩ := Inv.freeze (L := ownB bs ++ L) (b := b) (o := o) i
    obtain ⟨u', i2, l2, m2⟩ := Inv.frz i1
    refine ⟨u', i2, mle_trans l1 l2, fun c q h => ?_⟩
    rcases List.mem_cons.1 h with h | h
    · injection h with h1 h2
      subst h1; subst h2
      exact l2 _ _ (by simp)
    · exact m2 c q h
theorem Fn.post {P : Program} {f : FuncId} {args : List Value} {own : List HP} {u : Mem} {Q Q' : Value → List HP → Mem → Prop} (h : Fn P f args own u Q) (q : ∀ v own' u', Q v own' u' → mle u u' → ∀ cx w, cx.u = u → Inv cx own' u' w → ∃ own'' u'', Inv cx own'' u'' w ∧ Q' v own'' u'') : Fn P f args own u Q' := by
  refine ⟨h.1, fun w hh a b c d => (h.2 w hh a b c d).mono ?_⟩
  rintro e w' ⟨v, own', u', he, hq, hi⟩
  obtain ⟨own'', u'', i2, q2⟩ := q v own' u' hq hi.ule ⟨w, hh, u⟩ w' rfl hi
  exact ⟨v, own'', u'', he, q2, i2⟩
theorem Fn.frz {P : Program} {f : FuncId} {args : List Value} {own : List HP} {u : Mem} {R : Value → BS → Prop} {Q : Value → List HP → Mem → Prop} (h : Fn P f args own u fun v own' u' => u' = u ∧ ∃ bs, own' = ownB bs ∧ R v bs)
    (q : ∀ v bs u', R v bs → mle u u' → mpl (MB bs) (MU u') → Q v [] u') : Fn P f args own u Q := by
  refine h.post ?_
  rintro v own' u' ⟨rfl, bs, rfl, hr⟩ hle cx w hc i
  obtain ⟨u2, i2, l2, m2⟩ := Inv.frz (bs := bs) (L := []) (by simpa using i)
  exact ⟨[], u2, i2, q v bs u2 hr l2 m2⟩

theorem Star_ownB_at {bs : BS} {h : Mem} (s : Star (ownB bs) h) : ∀ p ∈ bs, h p.1 = some p.2 := by
  induction bs generalizing h with
  | nil => intro p hp; cases hp
  | cons q r ih =>
    obtain ⟨h1, h2, sp, hb, s2⟩ := s
    intro p hp
    rcases List.mem_cons.1 hp with rfl | hp
    · rcases sp p.1 with ⟨z, _⟩ | ⟨_, z⟩
      · rw [hb.1] at z; cases z
      · rw [z]; exact hb.1
    · have := ih s2 p hp
      rcases sp p.1 with ⟨_, z⟩ | ⟨z, _⟩
      · rw [z]; exact this
      · rw [this] at z; cases z
theorem Fn.borrow {P : Program} {f : FuncId} {args : List Value} {own : List HP} {u : Mem} {bs : BS} {R : Value → List HP → Prop} (he : Ent P f) (h : ∀ u2, mle u u2 → mpl (MB bs) (MU u2) → Fn P f args own u2 fun v own' u' => u' = u2 ∧ R v own') :
    Fn P f args (own ++ ownB bs) u fun v own' u' => u' = u ∧ ∃ own'', own' = own'' ++ ownB bs ∧ R v own'' := by
  refine ⟨he, fun w hh hs hd hhas hu => ?_⟩
  obtain ⟨h1, h2, sp, s1, s2⟩ := Star_append.1 hs
  have hsub1 : ∀ b, h1 b ≠ none → hh b = h1 b := fun b hb => by
    rcases sp b with ⟨q, _⟩ | ⟨_, q⟩
    · exact absurd q hb
    · exact q
  have hsub2 : ∀ b, h2 b ≠ none → hh b = h2 b := fun b hb => by
    rcases sp b with ⟨_, q⟩ | ⟨q, _⟩
    · exact q
    · exact absurd q hb
  have hx : ∀ b, h1 b = none ∨ h2 b = none := fun b => by
    rcases sp b with ⟨q, _⟩ | ⟨q, _⟩
    · exact .inl q
    · exact .inr q
  have hu2 : ∀ b, h2 b ≠ none → u b = none := fun b hb => by
    rcases hd b with q | q
    · exact q
    · rw [hsub2 b hb] at q; exact absurd q hb
  have hle : mle u (fun b => (h2 b).or (u b)) := fun b o e => by
    cases e2 : h2 b with
    | none => simp [e, e2]
    | some q => rw [hu2 b (by simp [e2])] at e; cases e
  have hmb : mpl (MB bs) (MU (fun b => (h2 b).or (u b))) := fun b o hb => by
    have := Star_ownB_at s2 (b, o) hb
    simp only at this
    show (h2 b).or (u b) = some o
    rw [this]; rfl
  refine ((h _ hle hmb).2 w h1 s1 (fun b => ?_) (fun b o e => hhas b o (by rw [hsub1 b (by simp [e])]; exact e)) (fun b o e => ?_)).mono ?_
  · rcases hx b with q | q
    · exact .inr q
    · rcases hd b with r | r
      · left; simp [q, r]
      · right
        by_cases z : h1 b = none
        · exact z
        · rw [hsub1 b z] at r; exact r
  · cases e2 : h2 b with
    | none => simp [e2] at e; exact hu b o e
    | some q =>
      simp [e2] at e
      subst e
      exact hhas b q (by rw [hsub2 b (by simp [e2])]; exact e2)
  · rintro e w' ⟨v, own', u', rfl, ⟨rfl, hr⟩, hi⟩
    refine ⟨v, own' ++ ownB bs, u, rfl, ⟨rfl, own', rfl, hr⟩, ?_⟩
    obtain ⟨⟨k, t, d1, hk, n1⟩, hu', ule', unew', os', tape', out', size', keep'⟩ := hi
    simp only at ule' unew' os' tape' out' size' keep' n1
    have hk2 : ∀ b, h2 b ≠ none → k b = none := fun b hb => by
      rcases d1 b with q | q
      · cases e2 : h2 b with
        | none => exact absurd e2 hb
        | some z => simp [e2] at q
      · exact q
    refine ⟨⟨fun b => (k b).or (h2 b), Star_append.2 ⟨k, h2, fun b => ?_, t, s2⟩, fun b => ?_, fun b o e => ?_, fun b hb => ?_⟩, fun b o e => hu' b o (hle b o e), mle_refl _, fun b hb => .inl hb, os', tape', out', size', fun b hb hc => keep' b hb ?_⟩
    · by_cases e2 : h2 b = none
      · right; simp [e2]
      · left; simp [hk2 b e2]
    · by_cases e2 : h2 b = none
      · rcases d1 b with q | q
        · left; simpa [e2] using q
        · right; simp [q, e2]
      · exact .inl (hu2 b e2)
    · by_cases e2 : h2 b = none
      · exact hk b o (by simpa [e2] using e)
      · have z := hk2 b e2
        simp [z] at e
        exact hu' b o (by simp [e])
    · by_cases e2 : h2 b = none
      · have hb' : k b ≠ none := by simpa [e2] using hb
        rcases n1 b hb' with q | q
        · left; show hh b ≠ none; rw [hsub1 b q]; exact q
        · exact .inr q
      · left; show hh b ≠ none; rw [hsub2 b e2]; exact e2
    · by_cases z : h1 b = none
      · exact z
      · exact absurd (show hh b = none from hc) (by rw [hsub1 b z]; exact z)
theorem Fn.borrowQ {P : Program} {f : FuncId} {args : List Value} {u : Mem} {bs : BS} {x : Value} (he : Ent P f) (h : ∀ u2, mle u u2 → mpl (MB bs) (MU u2) → QFn P f args u2 x) :
    Fn P f args (ownB bs) u fun v own' u' => u' = u ∧ own' = ownB bs ∧ v = x := by
  have := Fn.borrow (own := []) (R := fun v own' => v = x ∧ own' = []) he fun u2 a b => (h u2 a b).mono fun v o u' ⟨h1, h2, h3⟩ => ⟨h3, h1, h2⟩
  refine this.mono ?_
  rintro v own' u' ⟨h1, own'', h2, h3, rfl⟩
  exact ⟨h1, by simpa using h2, h3⟩
inductive St (e0 : Env) (bx0 : List Box) (F : List HP → Mem → Prop) : Env → List Box → List HP → Mem → Prop
  | mk {own : List HP} {u : Mem} (h : F own u) : St e0 bx0 F e0 bx0 own u
theorem CallW.q {P : Program} {f : FuncId} {vs : List Value} {R : Value → List Box → List HP → Mem → Prop} {bx : List Box} {own : List HP} {u : Mem} {v : Value} (h : QFn P f vs u v) (r : R v bx own u) : CallW P f vs R bx own u := by
  refine ⟨[], props bx own, u, fun cx w i => i, _, h, ?_⟩
  rintro v' own' u' ⟨rfl, rfl, rfl⟩ _
  exact ⟨bx, own, u', fun cx w i => i, r⟩
theorem CallW.own {P : Program} {f : FuncId} {vs : List Value} {R : Value → List Box → List HP → Mem → Prop} {bx : List Box} {own ownf rest : List HP} {u : Mem} {Q : Value → List HP → Mem → Prop} (h : Fn P f vs ownf u Q) (hp : List.Perm own (ownf ++ rest)) (r : ∀ v own' u', Q v own' u' → mle u u' → R v bx (own' ++ rest) u') : CallW P f vs R bx own u := by
  refine ⟨ownf, bx.map Box.hp ++ rest, u, fun cx w i => i.perm ?_, Q, h, fun v own' u' q l => ⟨bx, own' ++ rest, u', fun cx w i => i.perm ?_, r v own' u' q l⟩⟩
  · unfold props; exact ((hp.append_left _).trans (perm_3 _ _ _))
  · unfold props; exact perm_3 _ _ _
theorem CallW.u {P : Program} {f : FuncId} {vs : List Value} {R : Value → List Box → List HP → Mem → Prop} {bx : List Box} {own : List HP} {u : Mem} {Q : Value → List HP → Mem → Prop} (h : Fn P f vs [] u Q) (r : ∀ v own' u', Q v own' u' → mle u u' → R v bx (own' ++ own) u') : CallW P f vs R bx own u :=
  CallW.own (rest := own) h (List.Perm.refl _) r
theorem CallWD.q {P : Program} {f : FuncId} {vs : List Value} {R : Value → List Box → List HP → Mem → Prop} {bx : List Box} {own : List HP} {u : Mem} {v : Value} (h : QFn P f vs u v) (r : R v bx own u) : CallWD P f vs R bx own u := by
  refine ⟨[], own, List.Perm.refl _, _, h, ?_⟩
  rintro v' own' u' ⟨rfl, rfl, rfl⟩ _
  exact r
theorem CallWD.u {P : Program} {f : FuncId} {vs : List Value} {R : Value → List Box → List HP → Mem → Prop} {bx : List Box} {own : List HP} {u : Mem} {Q : Value → List HP → Mem → Prop} (h : Fn P f vs [] u Q) (r : ∀ v own' u', Q v own' u' → mle u u' → R v bx (own' ++ own) u') : CallWD P f vs R bx own u :=
  ⟨[], own, List.Perm.refl _, Q, h, r⟩
theorem CallW.boxF {P : Program} {f : FuncId} {vs : List Value} {R : Value → List Box → List HP → Mem → Prop} {b : Box} {bx : List Box} {own ownf rest : List HP} {u : Mem} {Q : Value → List HP → Mem → Prop} (hp : List.Perm own (ownf ++ rest))
    (h : ∀ u2, mle u u2 → u2 b.blk = some (.cells b.cells.toArray b.T (0, 0)) → Fn P f vs ownf u2 fun v own' u' => u' = u2 ∧ ∀ u3, mle u u3 → Q v own' u3)
    (he : Ent P f) (r : ∀ v own', Q v own' u → R v (b :: bx) (own' ++ rest) u) : CallW P f vs R (b :: bx) own u := by
  have := Fn.borrow (own := ownf) (u := u) (bs := [(b.blk, .cells b.cells.toArray b.T (0, 0))]) (R := fun v own' => Q v own' u) he fun u2 h1 h2 => (h u2 h1 (h2 _ _ (by simp [MB]))).mono fun v o u' ⟨q1, q2⟩ => ⟨q1, q2 u (mle_refl _)⟩
  refine ⟨ownf ++ ownB [(b.blk, .cells b.cells.toArray b.T (0, 0))], bx.map Box.hp ++ rest, u, fun cx w i => i.perm ?_, _, this, ?_⟩
  · unfold props
    show List.Perm (Box.hp b :: (bx.map Box.hp ++ own)) ((ownf ++ [Box.hp b]) ++ (bx.map Box.hp ++ rest))
    refine ((hp.append_left _).trans (perm_3 _ _ _)).cons _ |>.trans ?_
    rw [List.append_assoc]
    exact List.perm_middle.symm
  · rintro v own' u' ⟨rfl, own'', rfl, q⟩ _
    refine ⟨b :: bx, own'' ++ rest, u', fun cx w i => i.perm ?_, r v own'' q⟩
    unfold props
    show List.Perm ((own'' ++ [Box.hp b]) ++ (bx.map Box.hp ++ rest)) (Box.hp b :: (bx.map Box.hp ++ (own'' ++ rest)))
    refine List.Perm.trans ?_ ((perm_3 own'' (bx.map Box.hp) rest).cons _)
    rw [List.append_assoc]
    exact List.perm_middle
end Go.Proofs.YtenmmfkgopffgaaGreatDoor

namespace Go.Proofs.YtenmmfkgopffgaaGreatDoor
open Go

structure Lot where
  (mark from_ to_ owner holder until_ spent : Int)
  deriving DecidableEq
structure Void where
  (mark err : Int)
  deriving DecidableEq
structure Paid where
  (mark who period day n : Int)
  deriving DecidableEq
structure Bid where
  (mark who n : Int)
  op : Bool
  deriving DecidableEq
structure Voice where
  (mark who : Int)
  yes : Bool
  day : Int
  deriving DecidableEq
structure Member where
  (key joined : Int)
  backs : List Int
  (had debt : Int)
  deriving DecidableEq
structure Proposal where
  (mark day kind : Int)
  voices : List Voice
  done : Int
  deriving DecidableEq
structure Claim where
  (mark circle who n event day proofs : Int)
  (jury again : List Int)
  (state grant from_ : Int)
  deriving DecidableEq
structure Circle where
  (id found : Int)
  text : ByteArray
  (version law : Int)
  members : List Member
  paid : List Paid
  bids : List Bid
  (turns pots out : List Int)
  op : List Proposal
  claims : List Claim
  fund : Int
  ended : Bool
  deriving DecidableEq
structure State where
  day : Int
  keys : List Int
  circles : List Circle
  lots : List Lot
  voids : List Void
  deriving DecidableEq

def lotC (l : Lot) : List Value := [ic l.mark, ic l.from_, ic l.to_, ic l.owner, ic l.holder, ic l.until_, ic l.spent]
def voidC (v : Void) : List Value := [ic v.mark, ic v.err]
def paidC (p : Paid) : List Value := [ic p.mark, ic p.who, ic p.period, ic p.day, ic p.n]
def bidC (b : Bid) : List Value := [ic b.mark, ic b.who, ic b.n, .bool b.op]
def voiceC (v : Voice) : List Value := [ic v.mark, ic v.who, .bool v.yes, ic v.day]
def memberR (M : MP) (cs : List Value) (m : Member) : Prop := ∃ v, cs = [ic m.key, ic m.joined, v, ic m.had, ic m.debt] ∧ Ints M v m.backs
def proposalR (M : MP) (cs : List Value) (p : Proposal) : Prop := ∃ v, cs = [ic p.mark, ic p.day, ic p.kind, v, ic p.done] ∧ SlF 4 voiceC M v p.voices
def claimR (M : MP) (cs : List Value) (c : Claim) : Prop :=
  ∃ v w, cs = [ic c.mark, ic c.circle, ic c.who, ic c.n, ic c.event, ic c.day, ic c.proofs, v, w, ic c.state, ic c.grant, ic c.from_] ∧ Ints M v c.jury ∧ Ints M w c.again
def circleR (M : MP) (cs : List Value) (c : Circle) : Prop :=
  ∃ vm vp vb vt vo vu vq vc, cs = [ic c.id, ic c.found, .string c.text, ic c.version, ic c.law, vm, vp, vb, vt, vo, vu, vq, vc, ic c.fund, .bool c.ended] ∧ c.text.size ≤ maxN ∧
    Sl 5 memberR M vm c.members ∧ SlF 5 paidC M vp c.paid ∧ SlF 4 bidC M vb c.bids ∧ Ints M vt c.turns ∧ Ints M vo c.pots ∧ Ints M vu c.out ∧ Sl 5 proposalR M vq c.op ∧ Sl 12 claimR M vc c.claims
def stateR (M : MP) (cs : List Value) (s : State) : Prop :=
  ∃ vk vc vl vv, cs = [ic s.day, vk, vc, vl, vv] ∧ Ints M vk s.keys ∧ Sl 15 circleR M vc s.circles ∧ SlF 7 lotC M vl s.lots ∧ SlF 2 voidC M vv s.voids
theorem memberR.mono {M N : MP} {cs : List Value} {x : Member} (h : memberR M cs x) (l : mpl M N) : memberR N cs x := by
  obtain ⟨v, h1, h2⟩ := h; exact ⟨v, h1, h2.mono l⟩
theorem proposalR.mono {M N : MP} {cs : List Value} {x : Proposal} (h : proposalR M cs x) (l : mpl M N) : proposalR N cs x := by
  obtain ⟨v, h1, h2⟩ := h; exact ⟨v, h1, h2.mono l⟩
theorem claimR.mono {M N : MP} {cs : List Value} {x : Claim} (h : claimR M cs x) (l : mpl M N) : claimR N cs x := by
  obtain ⟨v, w, h1, h2, h3⟩ := h; exact ⟨v, w, h1, h2.mono l, h3.mono l⟩
theorem circleR.mono {M N : MP} {cs : List Value} {x : Circle} (h : circleR M cs x) (l : mpl M N) : circleR N cs x := by
  obtain ⟨vm, vp, vb, vt, vo, vu, vq, vc, h0, ht, h1, h2, h3, h4, h5, h6, h7, h8⟩ := h
  exact ⟨vm, vp, vb, vt, vo, vu, vq, vc, h0, ht, Sl.mono (R := memberR) (fun _ _ _ _ => memberR.mono) h1 l, h2.mono l, h3.mono l, h4.mono l, h5.mono l, h6.mono l, Sl.mono (R := proposalR) (fun _ _ _ _ => proposalR.mono) h7 l, Sl.mono (R := claimR) (fun _ _ _ _ => claimR.mono) h8 l⟩
theorem stateR.mono {M N : MP} {cs : List Value} {x : State} (h : stateR M cs x) (l : mpl M N) : stateR N cs x := by
  obtain ⟨vk, vc, vl, vv, h0, h1, h2, h3, h4⟩ := h
  exact ⟨vk, vc, vl, vv, h0, h1.mono l, Sl.mono (R := circleR) (fun _ _ _ _ => circleR.mono) h2 l, h3.mono l, h4.mono l⟩
def numB (n : Int) : Bool := decide (0 ≤ n) && decide (n ≤ 4503599627370496)
def allN (l : List Int) : Bool := l.all numB
def markB (n : Int) : Bool := decide (0 ≤ n) && decide (n ≤ 1073741824)
def keyB (n : Int) : Bool := decide (0 ≤ n) && decide (n < 200)
def allK (l : List Int) : Bool := l.all keyB
def addS (S : List Int) (x : Int) : List Int := bif S.contains x then S else S ++ [x]
def SMap (b : Nat) (S : List Int) : HP := IMap b (S.map fun k => (k, .bool true))
def memberB (m : Member) : Bool := numB m.joined && numB m.had && numB m.debt && allK m.backs
def membersB : List Int → List Member → Bool
  | _, [] => true
  | S, m :: r => keyB m.key && !(S.contains m.key) && memberB m && membersB (addS S m.key) r
def paidB : List Int → List Paid → Bool
  | _, [] => true
  | S, p :: r => markB p.mark && !(S.contains p.mark) && (keyB p.who && allN [p.period, p.day, p.n]) && paidB (addS S p.mark) r
def bidsB : List Int → List Bid → Bool
  | _, [] => true
  | S, b :: r => markB b.mark && !(S.contains b.mark) && (keyB b.who && ((b.n == -1) || numB b.n)) && bidsB (addS S b.mark) r
def voiceB (v : Voice) : Bool := markB v.mark && keyB v.who && numB v.day
def allV (l : List Voice) : Bool := l.all voiceB
def openB : List Int → List Proposal → Bool
  | _, [] => true
  | S, p :: r => markB p.mark && !(S.contains p.mark) && (numB p.day && decide (0 ≤ p.kind) && decide (p.kind < 21) && decide (0 ≤ p.done) && decide (p.done ≤ 2) && allV p.voices) && openB (addS S p.mark) r
def claimB (c : Claim) : Bool := markB c.circle && keyB c.who && allN [c.n, c.event, c.day, c.proofs, c.grant, c.from_] && allK c.jury && allK c.again && decide (0 ≤ c.state) && decide (c.state < 5)
def claimsB : List Int → List Claim → Bool
  | _, [] => true
  | S, c :: r => markB c.mark && !(S.contains c.mark) && claimB c && claimsB (addS S c.mark) r
def turnB (n : Int) : Bool := (n == -1) || keyB n
def allT (l : List Int) : Bool := l.all turnB
def circle0 (c : Circle) : Bool := markB c.id && markB c.law && numB c.found && numB c.version && decide (c.text.size ≤ 2000) && decide (-4503599627370496 ≤ c.fund) && decide (c.fund ≤ 4503599627370496) && decide (c.members.length ≤ 60)
def midB (c : Circle) : Bool := (c.turns.length == c.pots.length) && (c.turns.length == c.out.length) && allT c.turns && allN c.pots && allN c.out
def circleB (c : Circle) : Bool := circle0 c && membersB [] c.members && midB c && paidB [] c.paid && bidsB [] c.bids && openB [] c.op && claimsB [] c.claims
def circlesB : List Int → List Circle → Bool
  | _, [] => true
  | S, c :: r => circleB c && !(S.contains c.id) && circlesB (addS S c.id) r
def keysB : List Int → List Int → Bool
  | _, [] => true
  | S, k :: r => keyB k && !(S.contains k) && keysB (addS S k) r
def voidB (v : Void) : Bool := markB v.mark && decide (0 < v.err) && decide (v.err ≤ 32)
def allW (l : List Void) : Bool := l.all voidB
def lotB (x : Lot) : Bool := markB x.mark && decide (0 ≤ x.from_) && decide (x.from_ < x.to_) && decide (x.to_ ≤ 1048576) && keyB x.owner && keyB x.holder && numB x.until_ && ((x.spent == -1) || markB x.spent)
def pairB (l x : Lot) : Bool := decide (l.mark < x.mark) || ((l.mark == x.mark) && decide (l.to_ ≤ x.from_) && !((l.to_ == x.from_) && (l.owner == x.owner) && (l.holder == x.holder) && (l.until_ == x.until_) && (l.spent == x.spent)))
def lotsB : Option Lot → List Lot → Bool
  | _, [] => true
  | none, x :: r => lotB x && lotsB (some x) r
  | some l, x :: r => lotB x && pairB l x && lotsB (some x) r
def rightB (s : State) : Bool := numB s.day && keysB [] s.keys && decide (s.circles.length ≤ 40) && circlesB [] s.circles && allW s.voids && lotsB none s.lots
def few1 (m : Member) : Bool := decide (m.backs.length ≤ 12)
def few2 (p : Proposal) : Bool := decide (p.voices.length ≤ 12)
def few3 (c : Claim) : Bool := decide (c.jury.length ≤ 12) && decide (c.again.length ≤ 12)
def few0 (c : Circle) : Bool := decide (c.members.length ≤ 12) && decide (c.paid.length ≤ 12) && decide (c.bids.length ≤ 12) && decide (c.turns.length ≤ 12) && decide (c.pots.length ≤ 12) && decide (c.out.length ≤ 12) && decide (c.op.length ≤ 12) && decide (c.claims.length ≤ 12) && decide (c.text.size ≤ 2100)
def fewC (c : Circle) : Bool := few0 c && c.members.all few1 && c.op.all few2 && c.claims.all few3
def fewR (s : State) : Bool := decide (s.keys.length ≤ 50) && decide (s.voids.length ≤ 50) && decide (s.lots.length ≤ 50) && decide (s.circles.length ≤ 5)
def fewB (s : State) : Bool := (s.circles.take 6).all fewC && fewR s
end Go.Proofs.YtenmmfkgopffgaaGreatDoor

namespace Go.Proofs.YtenmmfkgopffgaaGreatDoor
open Go Go.Shelf Go.RowKit Go.Lib Go.Sort

def cmpI (a b : Int) : Int := bif decide (a < b) then -1 else bif decide (a > b) then 1 else 0
def orI : List Int → Int
  | [] => 0
  | x :: r => bif x != 0 then x else orI r
set_option maxHeartbeats 1000000 in
theorem compare_calls (a b : Int) (W : World) : Calls Tryz.prog 125 #[.int .i64 a, .int .i64 b] W fun e w' => e = .returned (.int .i64 (cmpI a b)) ∧ w' = W := by
  go_enter Tryz.func125, Tryz.ntmps125
  go_wp2
  · go_ret
    refine ⟨congrArg _ (congrArg _ (?_ : (-1 : Int) = cmpI a b)), rfl⟩
    have h : a < b := by assumption
    simp [cmpI, h]
  · go_ret
    refine ⟨congrArg _ (congrArg _ (?_ : (1 : Int) = cmpI a b)), rfl⟩
    have h : b < a := by assumption
    have h2 : ¬ a < b := by omega
    simp [cmpI, h, h2]
  · go_ret
    refine ⟨congrArg _ (congrArg _ (?_ : (0 : Int) = cmpI a b)), rfl⟩
    have h1 : b ≤ a := by assumption
    have h2 : a ≤ b := by assumption
    have h3 : ¬ a < b := by omega
    have h4 : ¬ b < a := by omega
    simp [cmpI, h3, h4]
theorem heap3 {w : World} {o1 o2 o3 : Obj} : (((w.alloc o1).alloc o2).alloc o3).drew.heap[w.heap.size + 1 + 1]? = some o3 := by
  show (((w.heap.push o1).push o2).push o3)[w.heap.size + 1 + 1]? = some o3
  have h : ((w.heap.push o1).push o2).size = w.heap.size + 1 + 1 := by simp
  rw [Array.getElem?_push, if_pos h.symm]
set_option maxHeartbeats 1000000 in
theorem or_calls (x y : Int) (blk : Nat) (W : World) (hb : W.heap[blk]? = some (.cells #[.int .i64 x, .int .i64 y] 3 (0, 0))) : Calls Tryz.prog 124 #[.slice (some ⟨blk, 0, none⟩) 2 2] W fun e w' => e = .returned (.int .i64 (orI [x, y])) ∧ w' = W := by
  have c0 : W.cell? ⟨blk, 0, none⟩ = some (.int .i64 x) := by rw [Lib.cell_of_heap hb]; rfl
  have c1 : W.cell? ⟨blk, 1, none⟩ = some (.int .i64 y) := by rw [Lib.cell_of_heap hb]; rfl
  go_enter Tryz.func124, Tryz.ntmps124
  go_wp2
  refine wp_loop_rounds 3 ?_
  rw [rounds_succ]
  go_wp2
  · have hx : (x != 0) = true := by assumption
    go_ret
    refine ⟨congrArg _ (congrArg _ (?_ : x = orI [x, y])), rfl⟩
    simp only [orI, hx, cond_true]
  · have hx : (x != 0) = false := by assumption
    rw [rounds_succ]
    go_wp2
    · have hy : (y != 0) = true := by assumption
      go_ret
      refine ⟨congrArg _ (congrArg _ (?_ : y = orI [x, y])), rfl⟩
      simp only [orI, hx, hy, cond_false, cond_true]
    · have hy : (y != 0) = false := by assumption
      rw [rounds_succ]
      go_wp2
      go_ret
      refine ⟨congrArg _ (congrArg _ (?_ : (0 : Int) = orI [x, y])), rfl⟩
      simp only [orI, hx, hy, cond_false]
set_option maxHeartbeats 4000000 in
set_option maxRecDepth 100000 in
theorem cmpSpan_calls (a b c a' b' c' : Int) (W : World) : Calls Tryz.prog 123 #[.agg #[.int .i64 a, .int .i64 b, .int .i64 c], .agg #[.int .i64 a', .int .i64 b', .int .i64 c']] W fun e w' => e = .returned (.int .i64 (orI [cmpI a a', cmpI b b'])) ∧ ∃ q os', w' = grow (W.drewN q) os' := by
  have mixed : Tryz.prog.follows Departure.mixedOrders = true := by kernel_rfl
  have hc : ∀ (x y : Int) (W' : World), Calls Tryz.prog 125 #[.int .i64 x, .int .i64 y] W' fun e w' => e = .returned (.int .i64 (cmpI x y)) ∧ w' = W' := compare_calls
  go_enter Tryz.func123, Tryz.ntmps123
  go_wp2
  go_region_held3 (fun w' => w'.cell? ⟨W.heap.size, 0, none⟩ = some (.int .i64 a) ∧ w'.cell? ⟨W.heap.size, 1, none⟩ = some (.int .i64 b) ∧ w'.cell? ⟨W.heap.size + 1, 0, none⟩ = some (.int .i64 a') ∧ w'.cell? ⟨W.heap.size + 1, 1, none⟩ = some (.int .i64 b')) (go_keep)
    (first | (go_at_call 125; refine (compare_calls _ _ _).mono ?_; rintro e w' ⟨rfl, rfl⟩) | (go_at_call 124; refine (or_calls (cmpI a a') (cmpI b b') _ _ ?_).mono ?_; (exact heap3); rintro e w' ⟨rfl, rfl⟩))
  all_goals go_wp2
  all_goals go_ret
  all_goals exact ⟨rfl, 1, #[.cells #[.int .i64 a, .int .i64 b, .int .i64 c] 38, .cells #[.int .i64 a', .int .i64 b', .int .i64 c'] 38, .cells #[.int .i64 (cmpI a a'), .int .i64 (cmpI b b')] 3], by rw [alloc_eq_grow, alloc_eq_grow, alloc_eq_grow, grow_grow, grow_grow]; rfl⟩
end Go.Proofs.YtenmmfkgopffgaaGreatDoor
