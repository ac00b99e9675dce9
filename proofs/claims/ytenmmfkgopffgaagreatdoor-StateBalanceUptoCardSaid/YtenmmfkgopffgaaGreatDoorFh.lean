/- Regions that draw their order: any order that the edges allow comes to what the walk's order comes to. -/
import Derived.Test.YtenmmfkgopffgaaGreatDoorFg
set_option linter.unusedVariables false
set_option linter.unusedSimpArgs false
namespace Go.Proofs.YtenmmfkgopffgaaGreatDoor
open Go

/-! ### What an item reads; two states alike there -/
def tOf : Operand → List Nat
  | .tmp t => [t]
  | _ => []
def tsOf : List Operand → List Nat
  | [] => []
  | x :: r => tOf x ++ tsOf r
def PI.ops : PI → List Operand
  | .mv x | .not x | .fld x .. | .len x | .slen x | .ext x _ | .fad x _ | .bld _ _ _ _ x | .nck x | .mki _ x | .cnv _ x | .snil _ x | .inl _ x | .neg _ x => [x]
  | .pick c x y | .picl c x y => [c, x, y]
  | .ib _ _ x y | .sb _ x y | .bb _ x y | .idx x y _ | .sq _ _ x y | .mnx _ _ x y | .six x y => [x, y]
  | .mkf _ first caps => first ++ caps
  | .mks _ parts => parts.map (·.2.2)
  | .ssl x lo hi | .slc x lo hi _ => x :: (lo.toList ++ hi.toList)
def PI.box : PI → Option Nat
  | .bld b .. => some b
  | _ => none
def I0.ops : I0 → List Operand
  | .p _ _ op => op.ops
  | .ld _ _ x _ _ => [x]
  | .qc _ _ x xs => x :: xs
  | .a _ act => act.reads
def I0.cs : I0 → Gd
  | .p _ cs _ | .ld _ cs _ _ _ | .qc _ cs _ _ => cs
  | .a _ _ => []
def I0.rd (x : I0) : List Nat := tsOf x.ops ++ x.cs.map (·.1)
/-- may the act turn what the item reads of the boxes? -/
def bxConf : I0 → I0 → Bool
  | .p _ _ (.bld b ..), .a _ (.box nm _ _) => b == nm
  | .p _ _ (.bld b ..), .a _ (.boxv nm _ _) => b == nm
  | .p _ _ (.bld b ..), .a _ (.bst c ..) => b == c
  | .p _ _ (.bld ..), .a _ (.ost ..) => true
  | .ld .., .a _ (.bst ..) => true
  | .ld .., .a _ (.ost ..) => true
  | _, _ => false
def I0.stable : I0 → Bool
  | .a _ _ => false
  | _ => true
section congr
variable {e e' : Env}
theorem ev_congr {x : Operand} (h : ∀ t ∈ tOf x, lk e t = lk e' t) : ev e x = ev e' x := by
  cases x with
  | tmp t => exact h t (by simp [tOf])
  | _ => rfl
theorem mem_tsOf {xs : List Operand} {x : Operand} (hx : x ∈ xs) : ∀ t ∈ tOf x, t ∈ tsOf xs := by
  induction xs with
  | nil => cases hx
  | cons y r ih =>
    intro t ht
    rcases List.mem_cons.1 hx with rfl | hx
    · exact List.mem_append_left _ ht
    · exact List.mem_append_right _ (ih hx t ht)
theorem evs_congr : ∀ {xs : List Operand}, (∀ x ∈ xs, ev e x = ev e' x) → evs e xs = evs e' xs
  | [], _ => rfl
  | x :: r, h => by simp only [evs, h x (by simp), evs_congr (xs := r) (fun y hy => h y (by simp [hy]))]
theorem mksV_congr : ∀ {parts : List (Nat × Nat × Operand)} {cs : List Value}, (∀ x ∈ parts.map (·.2.2), ev e x = ev e' x) → mksV e cs parts = mksV e' cs parts
  | [], _, _ => rfl
  | (o, n, x) :: r, cs, h => by
    have hx := h x (by simp)
    simp only [mksV, hx]
    cases ev e' x with
    | none => rfl
    | some v => simp only [mksV_congr (parts := r) (cs := setAt cs o (vcells v)) (fun y hy => h y (by simp at hy ⊢; exact .inr hy))]
theorem bnd_congr {d : Nat} {lo : Option Operand} (h : ∀ x ∈ lo.toList, ev e x = ev e' x) : bnd e d lo = bnd e' d lo := by
  cases lo with
  | none => rfl
  | some x => simp only [bnd, h x (by simp)]
theorem PI.val_congr {p : PI} {bx bx' : List Box} (h : ∀ x ∈ p.ops, ev e x = ev e' x) (hb : ∀ b, p.box = some b → getB bx b = getB bx' b) : p.val e bx = p.val e' bx' := by
  cases p <;> simp only [PI.ops] at h <;> simp only [PI.val]
  case mkf f first caps => rw [evs_congr (fun x hx => h x (List.mem_append_left _ hx)), evs_congr (fun x hx => h x (List.mem_append_right _ hx))]
  case mks zs parts => rw [mksV_congr h]
  case ssl x lo hi => rw [h x (by simp), bnd_congr (fun y hy => h y (by simp at hy ⊢; exact .inr (.inl hy)))]; congr; funext s; rw [bnd_congr (fun y hy => h y (by simp at hy ⊢; exact .inr (.inr hy)))]
  case slc x lo hi k => rw [h x (by simp), bnd_congr (fun y hy => h y (by simp at hy ⊢; exact .inr (.inl hy)))]; congr; funext a n c; rw [bnd_congr (fun y hy => h y (by simp at hy ⊢; exact .inr (.inr hy)))]
  case bld b off n agg x => rw [h x (by simp), hb b rfl]
  all_goals
    first
      | (rw [h _ (by simp)]; done)
      | (rw [h _ (List.mem_cons_self ..), h _ (List.mem_cons_of_mem _ (List.mem_cons_self ..))]; done)
      | (rw [h _ (List.mem_cons_self ..), h _ (List.mem_cons_of_mem _ (List.mem_cons_self ..)), h _ (List.mem_cons_of_mem _ (List.mem_cons_of_mem _ (List.mem_cons_self ..)))]; done)
theorem gok_congr : ∀ {cs : Gd}, (∀ p ∈ cs, lk e p.1 = lk e' p.1) → gok e cs = gok e' cs
  | [], _ => rfl
  | (g, w) :: r, h => by simp only [gok, h (g, w) (by simp), gok_congr (cs := r) (fun p hp => h p (by simp [hp]))]
theorem cond_congr : ∀ {cs : Gd}, (∀ p ∈ cs, lk e p.1 = lk e' p.1) → cond e cs = cond e' cs
  | [], _ => rfl
  | (g, w) :: r, h => by simp only [cond, h (g, w) (by simp), cond_congr (cs := r) (fun p hp => h p (by simp [hp]))]
theorem under_congr {cs : Gd} {s : Prop} (h : ∀ p ∈ cs, lk e p.1 = lk e' p.1) : under e cs s = under e' cs s := by
  cases cs with
  | nil => rfl
  | cons c r => simp only [under, cond_congr h]
theorem A.wp_congr {P : Program} {act : A} {bx : List Box} {own : List HP} {u : Mem} {R : Value → List Box → List HP → Mem → Prop} (h : ∀ x ∈ act.reads, ev e x = ev e' x) : act.wp P e bx own u R = act.wp P e' bx own u R := by
  cases act <;> simp only [A.reads] at h <;> simp only [A.wp]
  case call f xs => rw [evs_congr h]
  case callv x xs => rw [h x (by simp), evs_congr (fun y hy => h y (by simp [hy]))]
  case bsp T k xs => rw [evs_congr h]
  case boxv nm T x => rw [h x (by simp)]
  case bst b off n x v => rw [h x (by simp), h v (by simp)]
  case ost n x v => rw [h x (by simp), h v (by simp)]
  case app E k by_ x y => rw [h x (by simp), h y (by simp)]
  case lkm z x i => rw [h x (by simp), h i (by simp)]
  case upm x i v => rw [h x (by simp), h i (by simp), h v (by simp)]
end congr

theorem QFn.up {P : Program} {f : FuncId} {vs : List Value} {u u' : Mem} {v : Value} (h : QFn P f vs u v) (hle : mle u u') : QFn P f vs u' v := by
  refine ⟨h.1, fun w hh hs hd hw hu => ?_⟩
  have he : hh = fun _ => none := funext hs
  subst he
  refine (h.2 w (fun _ => none) (fun _ => rfl) (fun b => .inr rfl) (fun b o e => by cases e) (fun b o e => hu b o (hle b o e))).mono ?_
  rintro e w' ⟨v', o', u2, he, ⟨rfl, rfl, rfl⟩, hi⟩
  refine ⟨v', [], u', he, ⟨rfl, rfl, rfl⟩, ⟨fun _ => none, fun _ => rfl, fun b => .inr rfl, (fun b o e => by cases e), fun b hb => absurd rfl hb⟩, fun b o e => ?_, mle_refl _, fun b hb => .inl hb, hi.os, hi.tape, hi.output, hi.size, hi.keep⟩
  have hlt := has_lt hu (b := b) (by simp [e])
  rw [hi.keep b hlt rfl]; exact hu b o e
theorem urow_up {u u' : Mem} {b o : Nat} {cells : List Value} (h : urow u b o cells) (hle : mle u u') : urow u' b o cells := by
  obtain ⟨c, T, fz, hb, hc⟩ := h
  exact ⟨c, T, fz, hle _ _ hb, hc⟩

theorem under_mono {e : Env} {cs : Gd} {s s' : Prop} (h : under e cs s) (k : s → s') : under e cs s' := by
  cases cs with
  | nil => exact k h
  | cons c r => exact fun q => k (h q)
/-- what a stable item gives -/
def gives (P : Program) (e : Env) (bx : List Box) (u : Mem) (v : Value) : I0 → Prop
  | .p _ cs op => ∃ s, op.val e bx = some (s, v) ∧ gok e cs ∧ under e cs s
  | .ld _ cs y n agg => ∃ b o sp cells, ev e y = some (.pointer (some ⟨b, o, sp⟩)) ∧ gok e cs ∧ under e cs (sp = none ∧ lrow bx u b o cells) ∧ cells.length = n ∧ v = mkv agg cells
  | .qc _ cs y ys => ∃ f first caps vs, ev e y = some (.func (.func f) first caps) ∧ evs e ys = some vs ∧ gok e cs ∧ under e cs (QFn P f (first.toList ++ vs ++ caps.toList) u v)
  | .a _ _ => False
theorem gives_up {P : Program} {e : Env} {bx : List Box} {u u' : Mem} {v : Value} {x : I0} (h : gives P e bx u v x) (hle : mle u u') : gives P e bx u' v x := by
  cases x with
  | p d cs op => exact h
  | ld d cs y n agg =>
    obtain ⟨b, o, sp, cells, h1, h2, h3, h4⟩ := h
    exact ⟨b, o, sp, cells, h1, h2, under_mono h3 (fun q => ⟨q.1, q.2.imp (urow_up · hle) id⟩), h4⟩
  | qc d cs y ys =>
    obtain ⟨f, first, caps, vs, h1, h2, h3, h5⟩ := h
    exact ⟨f, first, caps, vs, h1, h2, h3, under_mono h5 (fun q => q.up hle)⟩
  | a d act => exact h.elim
/-- what an item reads of the boxes is as it was -/
def bxSame (x : I0) (bx bx' : List Box) : Prop := (∀ d cs op b, x = .p d cs op → op.box = some b → getB bx b = getB bx' b) ∧ (∀ d cs y n agg, x = .ld d cs y n agg → ∀ w ∈ bx, w ∈ bx')
theorem bxSame_refl (x : I0) (bx : List Box) : bxSame x bx bx := ⟨fun _ _ _ _ _ _ => rfl, fun _ _ _ _ _ _ _ h => h⟩
theorem gives_congr {P : Program} {e e' : Env} {bx bx' : List Box} {u : Mem} {v : Value} {x : I0} (h : gives P e bx u v x) (ht : ∀ t ∈ x.rd, lk e t = lk e' t) (hb : bxSame x bx bx') : gives P e' bx' u v x := by
  have ho : ∀ y ∈ x.ops, ev e y = ev e' y := fun y hy => ev_congr fun t htt => ht t (List.mem_append_left _ (mem_tsOf hy t htt))
  have hc : ∀ p ∈ x.cs, lk e p.1 = lk e' p.1 := fun p hp => ht _ (List.mem_append_right _ (List.mem_map.2 ⟨p, hp, rfl⟩))
  cases x with
  | p d cs op =>
    obtain ⟨s, h1, h2, h3⟩ := h
    have hc : ∀ p ∈ cs, lk e p.1 = lk e' p.1 := hc
    exact ⟨s, by rw [← PI.val_congr (e := e) (e' := e') ho (hb.1 d cs op · rfl)]; exact h1, by rw [← gok_congr hc]; exact h2, by rw [← under_congr hc]; exact h3⟩
  | ld d cs y n agg =>
    obtain ⟨b, o, sp, cells, h1, h2, h3, h4⟩ := h
    have hc : ∀ p ∈ cs, lk e p.1 = lk e' p.1 := hc
    exact ⟨b, o, sp, cells, by rw [← ho y (by simp [I0.ops])]; exact h1, by rw [← gok_congr hc]; exact h2, by rw [← under_congr hc]; exact under_mono h3 (fun q => ⟨q.1, q.2.imp id fun ⟨bw, hm, h5⟩ => ⟨bw, hb.2 d cs y n agg rfl bw hm, h5⟩⟩), h4⟩
  | qc d cs y ys =>
    obtain ⟨f, first, caps, vs, h1, h2, h3, h5⟩ := h
    have hc : ∀ p ∈ cs, lk e p.1 = lk e' p.1 := hc
    exact ⟨f, first, caps, vs, by rw [← ho y (by simp [I0.ops])]; exact h1, by rw [← evs_congr (fun z hz => ho z (by simp [I0.ops, hz]))]; exact h2, by rw [← gok_congr hc]; exact h3, by rw [← under_congr hc]; exact h5⟩
  | a d act => exact h.elim
/-- a stable item's value, and the walk behind it -/
theorem WSD_stable {P : Program} {K : Pd} {x : I0} {r : List I0} {e : Env} {bx : List Box} {own : List HP} {u : Mem} (hs : x.stable = true) (h : WSD P K (x :: r) e bx own u) :
    ∃ d v, dstOf x = some d ∧ gives P e bx u v x ∧ WSD P K r ((d, v) :: e) bx own u := by
  cases x with
  | p d cs op =>
    simp only [WSD] at h
    split at h
    rotate_left
    · exact h.elim
    rename_i s v hv
    exact ⟨d, v, rfl, ⟨s, hv, h.1, h.2.1⟩, h.2.2⟩
  | ld d cs y n agg =>
    simp only [WSD] at h
    split at h
    rotate_left
    · exact h.elim
    rename_i b o sp hv
    obtain ⟨cells, h1, h2, h3, h4⟩ := h
    exact ⟨d, _, rfl, ⟨b, o, sp, cells, hv, h1, h2, h3, rfl⟩, h4⟩
  | qc d cs y ys =>
    simp only [WSD] at h
    split at h
    rotate_left
    · exact h.elim
    rename_i f first caps vs hv hvs
    obtain ⟨v, h1, h3, h4⟩ := h
    exact ⟨d, v, rfl, ⟨f, first, caps, vs, hv, hvs, h1, h3⟩, h4⟩
  | a d act => simp [I0.stable] at hs
/-- a stable item, met by itself -/
theorem gives_WS0 {P : Program} {x : I0} {e : Env} {bx : List Box} {own : List HP} {u : Mem} {v : Value} {d : Nat} (hd : dstOf x = some d) (h : gives P e bx u v x) :
    WS0 P (fun e' bx' own' u' => e' = (d, v) :: e ∧ bx' = bx ∧ own' = own ∧ u' = u) [x] e bx own u := by
  cases x with
  | p d cs op =>
    simp [dstOf] at hd; subst hd
    obtain ⟨s, h1, h2, h3⟩ := h
    simp only [WS0, h1]
    exact ⟨h2, h3, trivial, trivial, trivial, trivial⟩
  | ld d cs y n agg =>
    simp [dstOf] at hd; subst hd
    obtain ⟨b, o, sp, cells, h1, h2, h3, h4, rfl⟩ := h
    simp only [WS0, h1]
    exact ⟨cells, h2, h3, h4, rfl, trivial, trivial, trivial⟩
  | qc d cs y ys =>
    simp [dstOf] at hd; subst hd
    obtain ⟨f, first, caps, vs, h1, h2, h3, h5⟩ := h
    simp only [WS0, h1, h2]
    exact ⟨v, h3, h5, rfl, trivial, trivial, trivial⟩
  | a d act => exact h.elim

def bxR (y : I0) (bx bx' : List Box) : Prop := ∀ x, bxConf x y = false → bxSame x bx bx'
theorem getB_setB {bx : List Box} {n b : Nat} {cs : List Value} (h : n ≠ b) : getB (setB bx n cs) b = getB bx b := by
  induction bx with
  | nil => rfl
  | cons c r ih =>
    simp only [setB]
    cases hc : (c.nm == n) with
    | true =>
      have : c.nm = n := by simpa using hc
      have hb : (c.nm == b) = false := by rw [this]; simpa using h
      simp [getB, hb]
    | false =>
      simp only [cond_false, getB, ih]
theorem bx_new {x : I0} {bx : List Box} {bb : Box} (h : ∀ d cs op b, x = .p d cs op → op.box = some b → b ≠ bb.nm) : bxSame x bx (bb :: bx) :=
  ⟨fun d cs op b hx hb => by
    have : (bb.nm == b) = false := by simpa using fun q => h d cs op b hx hb q.symm
    simp [getB, this], fun _ _ _ _ _ _ w hw => List.mem_cons_of_mem _ hw⟩
theorem bx_set {x : I0} {bx : List Box} {b : Nat} {vs : List Value} (h : ∀ d cs op c, x = .p d cs op → op.box = some c → b ≠ c) (h2 : ∀ d cs y n agg, x ≠ .ld d cs y n agg) : bxSame x bx (setB bx b vs) :=
  ⟨fun d cs op c hx hb => (getB_setB (h d cs op c hx hb)).symm, fun d cs y n agg hx => absurd hx (h2 d cs y n agg)⟩
theorem perm_3 {α : Type} (A B C : List α) : List.Perm (A ++ (B ++ C)) (B ++ (A ++ C)) := by
  rw [← List.append_assoc, ← List.append_assoc]; exact List.perm_append_comm.append_right _
theorem A.wpD_wp {P : Program} {d : Option Nat} {act : A} {e : Env} {bx : List Box} {own : List HP} {u : Mem} {R : Value → List Box → List HP → Mem → Prop} (h : act.wpD P e bx own u R) (Fr : List HP) :
    act.wp P e bx (own ++ Fr) u (fun v bx' own'' u' => ∃ own', own'' = own' ++ Fr ∧ R v bx' own' u' ∧ mle u u' ∧ bxR (.a d act) bx bx') := by
  have hcall : ∀ f vs, CallWD P f vs R bx own u → CallW P f vs (fun v bx' own'' u' => ∃ own', own'' = own' ++ Fr ∧ R v bx' own' u' ∧ mle u u' ∧ bxR (.a d act) bx bx') bx (own ++ Fr) u := by
    rintro f vs ⟨ownf, rest, hp, Q, hf, hk⟩
    refine ⟨ownf, bx.map Box.hp ++ (rest ++ Fr), u, fun cx w i => i.perm ?_, Q, hf, fun v own' u' q l => ⟨bx, (own' ++ rest) ++ Fr, u', fun cx w i => i.perm ?_, _, rfl, hk v own' u' q l, l, fun x _ => bxSame_refl x bx⟩⟩
    · unfold props
      refine ((hp.append_right Fr).append_left _).trans ?_
      rw [List.append_assoc]
      exact perm_3 _ _ _
    · unfold props
      rw [List.append_assoc own' rest Fr]
      exact perm_3 _ _ _
  have same : ∀ bx, bxR (.a d act) bx bx := fun bx x _ => bxSame_refl x bx
  cases act with
  | call f xs =>
    simp only [A.wpD, A.wp] at h ⊢
    cases hvs : evs e xs with
    | none => rw [hvs] at h; exact h.elim
    | some vs =>
      rw [hvs] at h
      exact hcall _ _ h
  | callv x xs =>
    simp only [A.wpD, A.wp] at h ⊢
    split at h
    rotate_left
    · exact h.elim
    rename_i f first caps hx
    rw [hx]
    simp only
    split at h
    rotate_left
    · exact h.elim
    rename_i vs hvs
    rw [hvs]
    exact hcall _ _ h
  | box nm T z =>
    exact fun blk => ⟨own, rfl, h blk, mle_refl _, fun x hx => bx_new fun d' cs op b hxe hb => by
      subst hxe
      cases op <;> simp [PI.box] at hb
      subst hb
      simpa [bxConf] using hx⟩
  | boxv nm T x =>
    simp only [A.wpD, A.wp] at h ⊢
    split at h
    · exact fun blk => ⟨own, rfl, h blk, mle_refl _, fun x hx => bx_new fun d' cs op b hxe hb => by
        subst hxe
        cases op <;> simp [PI.box] at hb
        subst hb
        simpa [bxConf] using hx⟩
    · exact h.elim
  | bst b off n x v =>
    simp only [A.wpD, A.wp] at h ⊢
    split at h
    · exact ⟨h.1, own, rfl, h.2, mle_refl _, fun x hx => bx_set (fun d' cs op c hxe hb => by
        subst hxe
        cases op <;> simp [PI.box] at hb
        subst hb
        simp [bxConf] at hx
        exact fun q => hx q.symm) (fun d' cs y m agg hxe => by subst hxe; cases hx)⟩
    · exact h.elim
  | ost n x v =>
    simp only [A.wpD, A.wp] at h ⊢
    split at h
    · obtain ⟨nm, w, h1, h2, h3, h4, h5, h6, h7⟩ := h
      exact ⟨nm, w, h1, h2, h3, h4, h5, h6, own, rfl, h7, mle_refl _, fun x hx => bx_set (fun d' cs op c hxe hb => by
        subst hxe
        cases op <;> simp [PI.box] at hb
        cases hx) (fun d' cs y m agg hxe => by subst hxe; cases hx)⟩
    · exact h.elim
  | bsp T k xs =>
    simp only [A.wpD, A.wp] at h ⊢
    split at h
    · exact h.imp (fun h => ⟨h.1, fun blk u' a b => ⟨own, rfl, h.2 blk u' a b, a, same bx⟩⟩) (fun h => ⟨h.1, fun blk => ⟨_, rfl, h.2 blk, mle_refl _, same bx⟩⟩)
    · exact h.elim
  | app E k by_ x y =>
    simp only [A.wpD, A.wp] at h ⊢
    split at h
    · obtain ⟨n, xs, own0, news, h1, h2, h3, h4, h5, h6, h7⟩ := h
      exact ⟨n, xs, own0 ++ Fr, news, h1.append_right Fr, h2, h3, h4, h5, h6, fun v' hv' => ⟨_, rfl, h7 v' hv', mle_refl _, same bx⟩⟩
    · exact h.elim
  | mkm => exact fun blk => ⟨_, rfl, h blk, mle_refl _, same bx⟩
  | lkm z x i =>
    simp only [A.wpD, A.wp] at h ⊢
    split at h
    · obtain ⟨l, own0, h1, h2, h3⟩ := h
      exact ⟨l, own0 ++ Fr, h1, h2.append_right Fr, _, rfl, h3, mle_refl _, same bx⟩
    · exact h.elim
  | upm x i y =>
    simp only [A.wpD, A.wp] at h ⊢
    split at h
    · obtain ⟨l, own0, h1, h2, h3⟩ := h
      exact ⟨l, own0 ++ Fr, h1, h2.append_right Fr, _, rfl, h3, mle_refl _, same bx⟩
    · exact h.elim

/-! ### The check -/
def sig : List I0 → List (Nat × Gd)
  | [] => []
  | x :: r => match dstOf x with
    | some d => (d, x.cs) :: sig r
    | none => sig r
def bindsOn (o : Oper) : List Nat := (o.after.toList.filter (Region.binds .any)).map (·.on)
/-- what each operation stands behind, by the edges (found in the text's order; held below) -/
def clos (ops : Array Oper) : List (List Nat) :=
  ops.toList.foldl (fun acc o => acc ++ [((bindsOn o).flatMap fun i => i :: acc.getD i []).eraseDups]) []
/-- a plain new box: it may be laid at any time -/
def isB : I0 → Bool
  | .a (some _) (.box _ _ _) => true
  | _ => false
/-- may it be met ahead of its time? whoever reads its slot stands behind it -/
def isE (cl : List (List Nat)) (L : List (Nat × I0)) (p : Nat × I0) : Bool :=
  p.2.stable && (match dstOf p.2 with
    | some d => L.all fun q => !(q.2.rd.contains d) || (cl.getD q.1 []).contains p.1
    | none => true)
def pairOK (cl : List (List Nat)) (L : List (Nat × I0)) (p q : Nat × I0) : Bool :=
  (match dstOf q.2 with
    | some d => (!(p.2.rd.contains d) || ((cl.getD q.1 []).contains p.1 && !(isE cl L q))) && (dstOf p.2 != some d)
    | none => true) && p.1 != q.1 && ((cl.getD q.1 []).contains p.1 || ((isE cl L p || isB q.2) && !(bxConf p.2 q.2)))
def pairsOK (cl : List (List Nat)) (L : List (Nat × I0)) : List (Nat × I0) → Bool
  | [] => true
  | p :: r => r.all (pairOK cl L p) && pairsOK cl L r
def depOK (cl : List (List Nat)) (L : List (Nat × I0)) (p : Nat × I0) (t : Nat) (q : Nat × I0) : Bool :=
  dstOf q.2 != some t || (cl.getD p.1 []).contains q.1 || ((cl.getD q.1 []).contains p.1 && !(isE cl L q) && q.2.cs.isEmpty && !((p.2.cs.map (·.1)).contains t))
def itemOK (P : Program) (n : Nat) (ops : Array Oper) (σ : List (Nat × Gd)) (cl : List (List Nat)) (L : List (Nat × I0)) (p : Nat × I0) : Bool :=
  match ops[p.1]? with
  | some o => (match gdOf ops o with
    | some gd => (chk1 P n σ [] gd o p.2).isSome
    | none => false) && (match dstOf p.2 with
    | some d => !(p.2.rd.contains d)
    | none => true) && (bindsOn o).all (· < p.1) && (p.2.rd).all fun t => L.all (depOK cl L p t)
  | none => false
def clOK (ops : Array Oper) (cl : List (List Nat)) : Bool := (List.range ops.size).all fun j => match ops[j]? with
  | some o => (cl.getD j []).all fun i => (bindsOn o).any fun d => d == i || (cl.getD d []).contains i
  | none => true
def chkD (P : Program) (n : Nat) (ops : Array Oper) (ord : List Nat) (l : List I0) (live : List Nat) : Bool :=
  ord.length == l.length && decide (ord.length ≤ ops.size) && (List.range ops.size).all (ord.contains ·) && clOK ops (clos ops) && pairsOK (clos ops) (ord.zip l) (ord.zip l) && (ord.zip l).all (itemOK P n ops (sig l) (clos ops) (ord.zip l)) &&
    live.all (fun t => (csOf (sig l) t).isEmpty)

theorem opOK_congr {σ σ' : List (Nat × Gd)} {cs : Gd} {x : Operand} (h : ∀ t ∈ tOf x, csOf σ t = csOf σ' t) : opOK σ cs x = opOK σ' cs x := by
  cases x with
  | tmp t => simp only [opOK, h t (by simp [tOf])]
  | _ => rfl
theorem readsOK_congr {σ σ' : List (Nat × Gd)} {cs : Gd} {p : PI} (h : ∀ x ∈ p.ops, ∀ cs, opOK σ cs x = opOK σ' cs x) : readsOK σ cs p = readsOK σ' cs p := by
  have hall : ∀ xs : List Operand, (∀ x ∈ xs, ∀ cs, opOK σ cs x = opOK σ' cs x) → xs.all (opOK σ cs) = xs.all (opOK σ' cs) := fun xs hx => by
    induction xs with
    | nil => rfl
    | cons y r ih => simp only [List.all_cons, hx y (by simp), ih fun z hz => hx z (by simp [hz])]
  cases p <;> simp only [PI.ops] at h <;> simp only [readsOK]
  case mkf f first caps => exact hall _ h
  case mks zs parts => exact hall _ h
  case ssl x lo hi => rw [h x (by simp), hall _ fun y hy => h y (List.mem_cons_of_mem _ hy)]
  case slc x lo hi k => rw [h x (by simp), hall _ fun y hy => h y (List.mem_cons_of_mem _ hy)]
  all_goals
    first
      | (rw [h _ (by simp)]; done)
      | (rw [h _ (List.mem_cons_self ..), h _ (List.mem_cons_of_mem _ (List.mem_cons_self ..))]; done)
      | (rw [h _ (List.mem_cons_self ..), h _ (List.mem_cons_of_mem _ (List.mem_cons_self ..)), h _ (List.mem_cons_of_mem _ (List.mem_cons_of_mem _ (List.mem_cons_self ..)))]; done)
theorem csFits_mem {σ : List (Nat × Gd)} {g : Nat} {want : Bool} {cs : Gd} (h : csFits σ (some (g, want)) cs = true) : (g, want) ∈ cs := by
  simp only [csFits, Bool.and_eq_true] at h
  exact subG_mem h.2 (g, want) (by simp)
theorem chk1_congr {P : Program} {n : Nat} {σ σ' : List (Nat × Gd)} {gs' : List Nat} {gd : Option (Nat × Bool)} {o : Oper} {x : I0} (h : (chk1 P n σ [] gd o x).isSome = true) (hσ : ∀ t ∈ x.rd, csOf σ t = csOf σ' t) (hg : ∀ d, dstOf x = some d → d ∉ gs') :
    chk1 P n σ' gs' gd o x = some (match dstOf x with
      | some d => (d, x.cs) :: σ'
      | none => σ', x.cs.map (·.1) ++ gs') := by
  have hop : ∀ y ∈ x.ops, ∀ cs, opOK σ cs y = opOK σ' cs y := fun y hy cs => opOK_congr fun t ht => hσ t (List.mem_append_left _ (mem_tsOf hy t ht))
  have hfit : ∀ cs, cs = x.cs → csFits σ gd cs = true → csFits σ' gd cs = true := by
    rintro cs rfl h
    cases gd with
    | none => exact h
    | some gw =>
      obtain ⟨g, wn⟩ := gw
      have := csFits_mem h
      have hc := hσ g (List.mem_append_right _ (List.mem_map.2 ⟨_, this, rfl⟩))
      simpa only [csFits, hc] using h
  cases x with
  | p d cs op =>
    simp only [chk1] at h ⊢
    split at h
    rotate_left
    · cases h
    rename_i hc
    obtain ⟨h1, h2, h3, h4, h5, h6, h7⟩ := hc
    rw [if_pos ⟨h1, h2, hg d rfl, hfit cs rfl h4, h5, h6, by rw [← readsOK_congr (σ := σ) hop]; exact h7⟩]
    rfl
  | ld d cs y k agg =>
    simp only [chk1] at h ⊢
    split at h
    rotate_left
    · cases h
    rename_i hc
    obtain ⟨h1, h2, h3, h4, h5, h6, h7⟩ := hc
    rw [if_pos ⟨h1, h2, hg d rfl, hfit cs rfl h4, h5, h6, by rw [← hop y (by simp [I0.ops])]; exact h7⟩]
    rfl
  | qc d cs y ys =>
    simp only [chk1] at h ⊢
    split at h
    rotate_left
    · cases h
    rename_i hc
    obtain ⟨h1, h2, h3, h4, h5, h6, h7⟩ := hc
    have h7' : (y :: ys).all (opOK σ' cs) = true := List.all_eq_true.2 fun z hz => by rw [← hop z (by simpa [I0.ops] using hz)]; exact List.all_eq_true.1 h7 z hz
    rw [if_pos ⟨h1, h2, hg d rfl, hfit cs rfl h4, h5, h6, h7'⟩]
    rfl
  | a d act =>
    simp only [chk1] at h ⊢
    split at h
    rotate_left
    · cases h
    rename_i hc
    obtain ⟨h1, h2, h3, h4, h5⟩ := hc
    have h5' : act.reads.all (opOK σ' []) = true := List.all_eq_true.2 fun z hz => by rw [← hop z (by simpa [I0.ops] using hz)]; exact List.all_eq_true.1 h5 z hz
    have h2' : dOk n gs' d = true := by
      cases d with
      | none => rfl
      | some d => simp only [dOk, Bool.and_eq_true, decide_eq_true_eq] at h2 ⊢; exact ⟨h2.1, hg d rfl⟩
    rw [if_pos ⟨h1, h2', h3, h4, h5'⟩]
    cases d <;> rfl
end Go.Proofs.YtenmmfkgopffgaaGreatDoor
