/- Code: the walk's own code SC, its check, the rules of the walk, and the way from a walk to a contract. -/
import Derived.Test.YtenmmfkgopffgaaGreatDoorFf
set_option linter.unusedVariables false
set_option linter.unusedSimpArgs false
namespace Go.Proofs.YtenmmfkgopffgaaGreatDoor
open Go

inductive SC where
  | bad
  | skip
  | ret
  | exit (id : Nat)
  | seq (a b : SC)
  | cnd (x : Operand) (a b : SC)
  | blk (id : Nat) (s : SC)
  | loop (s : SC)
  | reg (l : List I) (live lb : List Nat)
  | drw (ord : List Nat) (l : List I0) (live lb : List Nat)
inductive Ex where
  | normal
  | exit (id : Nat)
  | ret
abbrev Pd := Env → List Box → List HP → Mem → Prop
abbrev PQ := Ex → Pd

def restr (e : Env) : List Nat → Env
  | [] => []
  | t :: r => match lk e t with
    | some v => (t, v) :: restr e r
    | none => restr e r
def memN : List Nat → Nat → Bool
  | [], _ => false
  | x :: r, y => bif x == y then true else memN r y
def keepB (lb : List Nat) : List Box → List Box
  | [] => []
  | b :: r => bif memN lb b.nm then b :: keepB lb r else keepB lb r

theorem lk_restr {e : Env} {t : Nat} {v : Value} : ∀ {l : List Nat}, lk (restr e l) t = some v → lk e t = some v ∧ t ∈ l
  | [], h => by simp [restr, lk] at h
  | s :: r, h => by
    simp only [restr] at h
    cases hs : lk e s with
    | none => rw [hs] at h; obtain ⟨a, b⟩ := lk_restr h; exact ⟨a, List.mem_cons_of_mem _ b⟩
    | some x =>
      rw [hs] at h
      by_cases hst : s = t
      · subst hst
        rw [lk_cons_same] at h; simp at h; subst h
        exact ⟨hs, by simp⟩
      · rw [lk_cons_ne hst] at h; obtain ⟨a, b⟩ := lk_restr h; exact ⟨a, List.mem_cons_of_mem _ b⟩

theorem Inv.drop {cx : Ctx} {L D : List HP} {u : Mem} {w : World} (i : Inv cx (L ++ D) u w) : Inv cx L u w := by
  obtain ⟨⟨h, s, d, hh, n⟩, a, b, c, e, f, g, k, l⟩ := i
  obtain ⟨h1, h2, sp, s1, s2⟩ := Star_append.1 s
  have hsub : ∀ x, h1 x ≠ none → h x = h1 x := fun x hx => by
    rcases sp x with ⟨q, _⟩ | ⟨_, q⟩
    · exact absurd q hx
    · exact q
  refine ⟨⟨h1, s1, fun x => ?_, fun x o e => hh x o (by rw [hsub x (by simp [e])]; exact e), fun x hx => n x (by rw [hsub x hx]; exact hx)⟩, a, b, c, e, f, g, k, l⟩
  by_cases hx : h1 x = none
  · exact .inr hx
  · rcases d x with q | q
    · exact .inl q
    · rw [hsub x hx] at q; exact .inr q
theorem keepB_perm (lb : List Nat) (bx : List Box) : ∃ D, List.Perm bx (keepB lb bx ++ D) := by
  induction bx with
  | nil => exact ⟨[], List.Perm.refl _⟩
  | cons b r ih =>
    obtain ⟨D, p⟩ := ih
    simp only [keepB]
    cases memN lb b.nm with
    | true => exact ⟨D, p.cons b⟩
    | false => exact ⟨b :: D, (p.cons b).trans (by simpa using List.perm_middle.symm)⟩
theorem Inv.keepB {cx : Ctx} {lb : List Nat} {bx : List Box} {own : List HP} {u : Mem} {w : World} (i : Inv cx (props bx own) u w) : Inv cx (props (keepB lb bx) own) u w := by
  obtain ⟨D, p⟩ := keepB_perm lb bx
  have p1 : List.Perm (props bx own) (props (Go.Proofs.YtenmmfkgopffgaaGreatDoor.keepB lb bx) own ++ D.map Box.hp) := by
    unfold props
    refine ((p.map Box.hp).append_right own).trans ?_
    rw [List.map_append, List.append_assoc, List.append_assoc]
    exact (List.perm_append_comm).append_left _
  exact (i.perm p1).drop
theorem Inv.noB {cx : Ctx} {bx : List Box} {own : List HP} {u : Mem} {w : World} (i : Inv cx (props bx own) u w) : Inv cx own u w :=
  (i.perm (L' := own ++ bx.map Box.hp) (by unfold props; exact List.perm_append_comm)).drop

theorem FitsC.restr {n : Nat} {σ : List (Nat × Gd)} {e : Env} {a : Act} (f : FitsC n σ e a) {live : List Nat} (h : live.all (fun t => (csOf σ t).isEmpty) = true) : FitsC n [] (restr e live) a := by
  refine ⟨f.defers, f.size, fun t v hv _ => ?_, fun t v hv hc => absurd (fun p hp => by cases hp) hc⟩
  obtain ⟨h1, h2⟩ := lk_restr hv
  have := List.all_eq_true.1 h t h2
  have h0 : csOf σ t = [] := by simpa using this
  exact f.get t v h1 (by rw [h0]; exact fun p hp => by cases hp)

def WR (P : Program) (l : List I) (live lb : List Nat) (K : Pd) : Pd := WS P (fun e bx own u => K (restr e live) (keepB lb bx) own u) l
/-- A call inside a region that draws its order: it touches no box. -/
def CallWD (P : Program) (f : FuncId) (vs : List Value) (R : Value → List Box → List HP → Mem → Prop) (bx : List Box) (own : List HP) (u : Mem) : Prop :=
  ∃ ownf rest, List.Perm own (ownf ++ rest) ∧ ∃ Q, Fn P f vs ownf u Q ∧ ∀ v own' u', Q v own' u' → mle u u' → R v bx (own' ++ rest) u'
def A.wpD (P : Program) (e : Env) (bx : List Box) (own : List HP) (u : Mem) (R : Value → List Box → List HP → Mem → Prop) : A → Prop
  | .call f xs => match evs e xs with
    | some vs => CallWD P f vs R bx own u
    | none => False
  | .callv x xs => match ev e x with
    | some (.func (.func f) first caps) => match evs e xs with
      | some vs => CallWD P f (first.toList ++ vs ++ caps.toList) R bx own u
      | none => False
    | _ => False
  | act => act.wp P e bx own u R
def WSD (P : Program) (K : Pd) : List I0 → Pd
  | [], e, bx, own, u => K e bx own u
  | .p d cs op :: r, e, bx, own, u => match op.val e bx with
    | some (s, v) => gok e cs ∧ under e cs s ∧ WSD P K r ((d, v) :: e) bx own u
    | none => False
  | .ld d cs x n agg :: r, e, bx, own, u => match ev e x with
    | some (.pointer (some ⟨b, o, sp⟩)) => ∃ cells : List Value, gok e cs ∧ under e cs (sp = none ∧ lrow bx u b o cells) ∧ cells.length = n ∧ WSD P K r ((d, mkv agg cells) :: e) bx own u
    | _ => False
  | .qc d cs x xs :: r, e, bx, own, u => match ev e x, evs e xs with
    | some (.func (.func f) first caps), some vs => ∃ v : Value, gok e cs ∧ under e cs (QFn P f (first.toList ++ vs ++ caps.toList) u v) ∧ WSD P K r ((d, v) :: e) bx own u
    | _, _ => False
  | .a d act :: r, e, bx, own, u => act.wpD P e bx own u fun v bx own u => WSD P K r (putd d v e) bx own u
def WD (P : Program) (l : List I0) (live lb : List Nat) (K : Pd) : Pd := WSD P (fun e bx own u => K (restr e live) (keepB lb bx) own u) l

def chkC (P : Program) (n : Nat) (chkD : Array Oper → List Nat → List I0 → List Nat → Bool) : SC → Code → Bool
  | .bad, _ => true
  | .skip, .skip => true
  | .ret, .ret => true
  | .exit i, .exit j => i == j
  | .seq a b, .seq c d => chkC P n chkD a c && chkC P n chkD b d
  | .cnd x a b, .cond y c d => osame y x && chkC P n chkD a c && chkC P n chkD b d
  | .blk i s, .block j c => i == j && chkC P n chkD s c
  | .loop s, .loop c => chkC P n chkD s c
  | .reg l live lb, .region _ ops false => match chkS P n ops [] [] (List.range ops.size) l with
    | some σ => live.all (fun t => (csOf σ t).isEmpty)
    | none => false
  | .drw ord l live lb, .region _ ops true => chkD ops ord l live
  | _, _ => false

def lift (n : Nat) (cx : Ctx) (q : Pd) (a : Act) (w : World) : Prop := ∃ e bx own u, q e bx own u ∧ FitsC n [] e a ∧ Inv cx (props bx own) u w
def post (n : Nat) (cx : Ctx) (Q : PQ) : Exit → Act → World → Prop
  | .normal, a, w => lift n cx (Q .normal) a w
  | .exit id, a, w => lift n cx (Q (.exit id)) a w
  | .ret, a, w => lift n cx (Q .ret) a w
  | _, _, _ => False
def thenQ (k : Pd) (Q : PQ) : PQ
  | .normal => k
  | ex => Q ex
def inBlk (id : Nat) (Q : PQ) : PQ
  | .exit j => if j = id then Q .normal else Q (.exit j)
  | ex => Q ex

def onlyN (n : Nat) (cx : Ctx) (K : Pd) : Exit → Act → World → Prop
  | .normal, a, w => lift n cx K a w
  | _, _, _ => False
/-- what the check of a region that draws its order must give -/
def DrawOK (P : Program) (n : Nat) (chkD : Array Oper → List Nat → List I0 → List Nat → Bool) : Prop :=
  ∀ ops ord l live id lb (K : Pd) e bx own u cx a w, chkD ops ord l live = true → WD P l live lb K e bx own u → FitsC n [] e a → Inv cx (props bx own) u w →
    (Code.region id ops true).wp P (onlyN n cx K) a w

/-- THE JUDGEMENT: from these slots, boxes, resources and memory the code comes to Q. -/
def W (P : Program) (D : Nat → Array Oper → List Nat → List I0 → List Nat → Bool) (n : Nat) (cx : Ctx) (s : SC) (Q : PQ) (e : Env) (bx : List Box) (own : List HP) (u : Mem) : Prop :=
  ∀ c, chkC P n (D n) s c = true → ∀ a w, FitsC n [] e a → Inv cx (props bx own) u w → c.wp P (post n cx Q) a w

section
variable {P : Program} {D : Nat → Array Oper → List Nat → List I0 → List Nat → Bool} {n : Nat} {cx : Ctx} {Q : PQ} {e : Env} {bx : List Box} {own : List HP} {u : Mem}

theorem W_skip (h : Q .normal e bx own u) : W P D n cx .skip Q e bx own u := by
  intro c hc a w f i
  cases c <;> simp [chkC] at hc
  exact wp_skip ⟨e, bx, own, u, h, f, i⟩
theorem W_ret (h : Q .ret e bx own u) : W P D n cx .ret Q e bx own u := by
  intro c hc a w f i
  cases c <;> simp [chkC] at hc
  exact wp_ret ⟨e, bx, own, u, h, f, i⟩
theorem W_exit {id : Nat} (h : Q (.exit id) e bx own u) : W P D n cx (.exit id) Q e bx own u := by
  intro c hc a w f i
  cases c <;> simp [chkC] at hc
  subst hc
  exact wp_exit ⟨e, bx, own, u, h, f, i⟩
theorem W_seq {s t : SC} (h : W P D n cx s (thenQ (fun e bx own u => W P D n cx t Q e bx own u) Q) e bx own u) : W P D n cx (.seq s t) Q e bx own u := by
  intro c hc a w f i
  cases c <;> simp [chkC] at hc
  rename_i c d
  refine wp_seq (wp_mono (h c hc.1 a w f i) ?_)
  intro ex a' w' hp
  cases ex with
  | normal => obtain ⟨e', bx', own', u', hq, f', i'⟩ := hp; exact hq d hc.2 a' w' f' i'
  | exit id => exact hp
  | ret => exact hp
  | goto l => exact hp
  | panic ch => exact hp
  | outgrown => exact hp
theorem W_cnd {x : Operand} {s t : SC} {b : Bool} (hx : ev e x = some (.bool b)) (h1 : b = true → W P D n cx s Q e bx own u) (h2 : b = false → W P D n cx t Q e bx own u) : W P D n cx (.cnd x s t) Q e bx own u := by
  intro c hc a w f i
  cases c <;> simp [chkC] at hc
  rename_i y c d
  obtain ⟨⟨hy, hc1⟩, hc2⟩ := hc
  obtain rfl := osame_eq hy
  have : a.eval y = .bool b := f.opk (fun t ht p hp => by cases hp) _ hx
  exact wp_cond_split this (fun hb => h1 hb c hc1 a w f i) (fun hb => h2 hb d hc2 a w f i)
theorem W_blk {id : Nat} {s : SC} (h : W P D n cx s (inBlk id Q) e bx own u) : W P D n cx (.blk id s) Q e bx own u := by
  intro c hc a w f i
  cases c <;> simp [chkC] at hc
  rename_i j c
  obtain ⟨rfl, hc⟩ := hc
  refine wp_block (wp_mono (h c hc a w f i) ?_)
  intro ex a' w' hp
  cases ex with
  | exit k =>
    simp only [post, inBlk, Exit.inBlock] at hp ⊢
    by_cases hk : k = id
    · simpa [hk, lift] using hp
    · simpa [hk, lift] using hp
  | normal => exact hp
  | ret => exact hp
  | goto l => exact hp
  | panic ch => exact hp
  | outgrown => exact hp
theorem wp_loop_rel {P : Program} {Q : Exit → Act → World → Prop} {c : Code} (I : Nat → Act → World → Prop) {m : Nat} {a : Act} {w : World} (h₀ : I m a w)
    (round : ∀ m a w, I m a w → c.wp P (Exit.then (fun a' w' => ∃ m', m' < m ∧ I m' a' w') Q) a w) : (Code.loop c).wp P Q a w := by
  intro b k cs
  have key : ∀ m a w, I m a w →
      ∃ e a' w', Q e a' w' ∧ Arrives P (lone (b.at a (.code c :: .inLoop c :: k)) cs w) b k cs e a' w' := by
    intro m
    induction m using Nat.strongRecOn with
    | _ m ih =>
      intro a w hI
      obtain ⟨e, a₁, w₁, hq, harr⟩ := round m a w hI b (.inLoop c :: k) cs
      cases e with
      | normal =>
        obtain ⟨m', hlt, hI₁⟩ := hq
        obtain ⟨e₂, a₂, w₂, hq₂, harr₂⟩ := ih m' hlt a₁ w₁ hI₁
        exact ⟨e₂, a₂, w₂, hq₂, .of_steps (Steps.trans harr (.one step_inLoop)) harr₂⟩
      | exit id => exact ⟨_, a₁, w₁, hq, .pass (x := .inLoop c) rfl (fun _ _ => .inl (by simp)) harr⟩
      | goto l => exact ⟨_, a₁, w₁, hq, .pass (x := .inLoop c) rfl (fun _ _ => .inl (by simp)) harr⟩
      | ret => exact ⟨_, a₁, w₁, hq, .pass (x := .inLoop c) rfl (fun _ _ => .inl (by simp)) harr⟩
      | panic ch => exact ⟨_, a₁, w₁, hq, .pass (x := .inLoop c) rfl (fun _ _ => .inl (by simp)) harr⟩
      | outgrown => exact ⟨_, a₁, w₁, hq, .pass (x := .inLoop c) rfl (fun _ _ => .inl (by simp)) harr⟩
  obtain ⟨e, a', w', hq, harr⟩ := key m a w h₀
  exact ⟨e, a', w', hq, .of_steps (.one step_loop) harr⟩
theorem W_loop {s : SC} (J : Nat → Pd) {m : Nat} (h0 : J m e bx own u) (h : ∀ m e bx own u, J m e bx own u → W P D n cx s (thenQ (fun e bx own u => ∃ m', m' < m ∧ J m' e bx own u) Q) e bx own u) : W P D n cx (.loop s) Q e bx own u := by
  intro c hc a w f i
  cases c <;> simp [chkC] at hc
  rename_i c
  refine wp_loop_rel (fun m a w => lift n cx (J m) a w) (m := m) ⟨e, bx, own, u, h0, f, i⟩ ?_
  rintro m a w ⟨e, bx, own, u, hJ, f, i⟩
  refine wp_mono (h m e bx own u hJ c hc a w f i) ?_
  intro ex a' w' hp
  cases ex with
  | normal => obtain ⟨e', bx', own', u', ⟨m', hm, hq⟩, f', i'⟩ := hp; exact ⟨m', hm, e', bx', own', u', hq, f', i'⟩
  | exit id => exact hp
  | ret => exact hp
  | goto l => exact hp
  | panic ch => exact hp
  | outgrown => exact hp
theorem W_reg {l : List I} {live lb : List Nat} (h : WR P l live lb (Q .normal) e bx own u) : W P D n cx (.reg l live lb) Q e bx own u := by
  intro c hc a w f i
  cases c with
  | region id ops draw =>
    cases draw with
    | true => simp [chkC] at hc
    | false =>
      simp only [chkC] at hc
      split at hc
      rotate_left
      · cases hc
      rename_i σ hs
      refine wp_region (seq_sound l hs h f (fun t p hp => by cases hp) i ?_)
      intro e' bx' own' u' a' w' hK f' i'
      exact ⟨_, _, _, _, hK, f'.restr hc, i'.keepB⟩
  | _ => simp [chkC] at hc
theorem W_drw (hD : DrawOK P n (D n)) {ord : List Nat} {l : List I0} {live lb : List Nat} (h : WD P l live lb (Q .normal) e bx own u) : W P D n cx (.drw ord l live lb) Q e bx own u := by
  intro c hc a w f i
  cases c with
  | region id ops draw =>
    cases draw with
    | false => simp [chkC] at hc
    | true =>
      simp only [chkC] at hc
      refine wp_mono (hD ops ord l live id lb (Q .normal) e bx own u cx a w hc h f i) ?_
      intro ex a' w' hp
      cases ex with
      | normal => exact hp
      | exit id => exact hp.elim
      | ret => exact hp.elim
      | goto l => exact hp.elim
      | panic ch => exact hp.elim
      | outgrown => exact hp.elim
  | _ => simp [chkC] at hc

/-- from one state to another that the same world bears -/
theorem W_gh {s : SC} {bx' : List Box} {own' : List HP} {u' : Mem} (g : ∀ w, Inv cx (props bx own) u w → Inv cx (props bx' own') u' w) (h : W P D n cx s Q e bx' own' u') : W P D n cx s Q e bx own u :=
  fun c hc a w f i => h c hc a w f (g w i)
/-- what the invariant says may be used -/
theorem W_fact {s : SC} (F : Prop) (g : ∀ w, Inv cx (props bx own) u w → F) (h : F → W P D n cx s Q e bx own u) : W P D n cx s Q e bx own u :=
  fun c hc a w f i => h (g w i) c hc a w f i
/-- some state that the same world bears -/
theorem W_some {s : SC} (h : ∀ w, Inv cx (props bx own) u w → ∃ bx' own' u', Inv cx (props bx' own') u' w ∧ W P D n cx s Q e bx' own' u') : W P D n cx s Q e bx own u := by
  intro c hc a w f i
  obtain ⟨bx', own', u', i', hw⟩ := h w i
  exact hw c hc a w f i'
/-- slots forgotten -/
theorem W_env {s : SC} {e' : Env} (g : ∀ t v, lk e' t = some v → lk e t = some v) (h : W P D n cx s Q e' bx own u) : W P D n cx s Q e bx own u :=
  fun c hc a w f i => h c hc a w ⟨f.defers, f.size, fun t v hv _ => f.get t v (g t v hv) (fun p hp => by cases hp), fun t v _ hc => absurd (fun p hp => by cases hp) hc⟩ i
theorem W_mono {s : SC} {Q' : PQ} (hq : ∀ ex e bx own u, Q' ex e bx own u → Q ex e bx own u) (h : W P D n cx s Q' e bx own u) : W P D n cx s Q e bx own u := by
  intro c hc a w f i
  refine wp_mono (h c hc a w f i) ?_
  intro ex a' w' hp
  cases ex with
  | normal => obtain ⟨e', bx', own', u', h1, h2⟩ := hp; exact ⟨e', bx', own', u', hq _ _ _ _ _ h1, h2⟩
  | exit id => obtain ⟨e', bx', own', u', h1, h2⟩ := hp; exact ⟨e', bx', own', u', hq _ _ _ _ _ h1, h2⟩
  | ret => obtain ⟨e', bx', own', u', h1, h2⟩ := hp; exact ⟨e', bx', own', u', hq _ _ _ _ _ h1, h2⟩
  | goto l => exact hp
  | panic ch => exact hp
  | outgrown => exact hp
end

theorem W_mid {P : Program} {D : Nat → Array Oper → List Nat → List I0 → List Nat → Bool} {n : Nat} {cx : Ctx} {Q : PQ} {e : Env} {bx : List Box} {own : List HP} {u : Mem} {s t : SC} (M : Pd) (h1 : W P D n cx s (thenQ M Q) e bx own u) (h2 : ∀ e bx own u, M e bx own u → W P D n cx t Q e bx own u) : W P D n cx (.seq s t) Q e bx own u :=
  W_seq (W_mono (fun ex e bx own u h => by
    cases ex with
    | normal => exact h2 _ _ _ _ h
    | exit id => exact h
    | ret => exact h) h1)
def env0 : Nat → List Value → Env
  | _, [] => []
  | k, v :: r => (k, v) :: env0 (k + 1) r
/-- a result: a slot, or a box that a slot points to -/
inductive RV where
  | t (r : Nat)
  | c (a n : Nat) (agg : Bool)
def rv1 (e : Env) (bx : List Box) : RV → Option (Prop × Value)
  | .t r => match lk e r with
    | some v => some (True, v)
    | none => none
  | .c a n agg => match lk e a, getB bx a with
    | some p, some w => some (p = .pointer (some ⟨w.blk, 0, none⟩) ∧ w.cells.length = n, mkv agg w.cells)
    | _, _ => none
def rvs (e : Env) (bx : List Box) : List RV → Option (Prop × List Value)
  | [] => some (True, [])
  | r :: rs => match rv1 e bx r with
    | some (s, v) => match rvs e bx rs with
      | some (s', vs) => some (s ∧ s', v :: vs)
      | none => none
    | none => none
def retV (e : Env) (bx : List Box) : List RV → Option (Prop × Value)
  | [r] => rv1 e bx r
  | rs => match rvs e bx rs with
    | some (s, vs) => some (s, .tuple vs.toArray)
    | none => none
def resOK (P : Program) (l : List ResultVar) (rs : List RV) : Bool := match l, rs with
  | [], [] => true
  | .tmp t :: l, .t r :: rs => t == r && resOK P l rs
  | .cell a T :: l, .c a' n agg :: rs => a == a' && decide (aggB P T = some agg) && decide (szB P T = some n) && (agg || decide (n = 1)) && decide (1 ≤ n) && resOK P l rs
  | _, _ => false
/-- what a walk must come to at its end -/
def RetQ (cx : Ctx) (rs : List RV) (Q : Value → List HP → Mem → Prop) : PQ
  | .exit _ => fun _ _ _ _ => False
  | _ => fun e bx own u => ∃ s v own' u', retV e bx rs = some (s, v) ∧ s ∧ (∀ w, Inv cx (props bx own) u w → Inv cx own' u' w) ∧ Q v own' u'
theorem RetQ.out {cx : Ctx} {rs : List RV} {Q : Value → List HP → Mem → Prop} {e : Env} {bx : List Box} {own : List HP} {u : Mem} {s : Prop} {v : Value} (h : retV e bx rs = some (s, v)) (hs : s) (q : Q v own u) : RetQ cx rs Q .ret e bx own u :=
  ⟨s, v, own, u, h, hs, fun w i => i.noB, q⟩

/-- frozen memory is forgotten -/
theorem Inv.less {cx : Ctx} {L : List HP} {u u' : Mem} {w : World} (i : Inv cx L u' w) (h : mle u u') (hc : mle cx.u u) : Inv cx L u w := by
  obtain ⟨⟨k, s, d, hk, n⟩, a, b, c, e1, e2, e3, g, kp⟩ := i
  have hs : ∀ x, u x ≠ none → u' x ≠ none := fun x hx => by
    cases e : u x with
    | none => exact absurd e hx
    | some o => rw [h x o e]; simp
  refine ⟨⟨k, s, fun x => ?_, hk, n⟩, fun x o e => a x o (h x o e), hc, fun x hx => c x (hs x hx), e1, e2, e3, g, kp⟩
  rcases d x with q | q
  · left
    cases e : u x with
    | none => rfl
    | some o => rw [h x o e] at q; cases q
  · exact .inr q
/-- at the end all that was frozen underway is forgotten -/
theorem RetQ.outU {cx : Ctx} {rs : List RV} {Q : Value → List HP → Mem → Prop} {e : Env} {bx : List Box} {own : List HP} {u u0 : Mem} {s : Prop} {v : Value} (hc : cx.u = u0) (hle : mle u0 u) (h : retV e bx rs = some (s, v)) (hs : s) (q : Q v own u0) : RetQ cx rs Q .ret e bx own u :=
  ⟨s, v, own, u0, h, hs, fun w i => i.noB.less hle (by rw [hc]; exact mle_refl _), q⟩
/-- at the end nothing is handed back -/
theorem RetQ.outQ {cx : Ctx} {rs : List RV} {Q : Value → List HP → Mem → Prop} {e : Env} {bx : List Box} {own : List HP} {u u0 : Mem} {s : Prop} {v : Value} (hc : cx.u = u0) (hle : mle u0 u) (h : retV e bx rs = some (s, v)) (hs : s) (q : Q v [] u0) : RetQ cx rs Q .ret e bx own u :=
  ⟨s, v, [], u0, h, hs, fun w i => Inv.drop (L := []) (D := own) (i.noB.less hle (by rw [hc]; exact mle_refl _)), q⟩
/-- at the end, with a step of what is owned -/
theorem RetQ.outG {cx : Ctx} {rs : List RV} {Q : Value → List HP → Mem → Prop} {e : Env} {bx : List Box} {own own' : List HP} {u u' : Mem} {s : Prop} {v : Value} (h : retV e bx rs = some (s, v)) (hs : s) (g : ∀ w, Inv cx (props bx own) u w → Inv cx own' u' w) (q : Q v own' u') : RetQ cx rs Q .ret e bx own u :=
  ⟨s, v, own', u', h, hs, g, q⟩

theorem lk_env0 {vs : List Value} : ∀ {k t : Nat} {v : Value}, lk (env0 k vs) t = some v → k ≤ t ∧ vs[t - k]? = some v := by
  induction vs with
  | nil => intro k t v h; simp [env0, lk] at h
  | cons x r ih =>
    intro k t v h
    simp only [env0] at h
    by_cases hk : k = t
    · subst hk; rw [lk_cons_same] at h; simp at h; subst h; simp
    · rw [lk_cons_ne hk] at h
      obtain ⟨h1, h2⟩ := ih h
      refine ⟨by omega, ?_⟩
      obtain ⟨m, hm⟩ : ∃ m, t - k = m + 1 := ⟨t - k - 1, by omega⟩
      rw [hm, List.getElem?_cons_succ]
      have : t - (k + 1) = m := by omega
      rw [← this]; exact h2

theorem rvs_run {P : Program} {n : Nat} {cx : Ctx} {e : Env} {bx : List Box} {own : List HP} {u : Mem} {a : Act} {w : World} (f : FitsC n [] e a) (i : Inv cx (props bx own) u w) : ∀ {l : List ResultVar} {rs : List RV} {s : Prop} {vs : List Value}, resOK P l rs = true → rvs e bx rs = some (s, vs) → s →
    (l.mapM (fun (x : ResultVar) => (match x with
      | .tmp t => pure (a.tmps.getD t undef)
      | .cell b t => do loadVar t (← asAddr (a.tmps.getD b undef)) : Sem Value))).run P w = .ok vs w
  | [], [], s, vs, _, h, _ => by simp [rvs] at h; obtain ⟨_, rfl⟩ := h; rfl
  | [], r :: rs, s, vs, h, _, _ => by simp [resOK] at h
  | .tmp t :: l, [], s, vs, h, _, _ => by simp [resOK] at h
  | .cell b t :: l, [], s, vs, h, _, _ => by simp [resOK] at h
  | .cell b t :: l, .t r :: rs, s, vs, h, _, _ => by simp [resOK] at h
  | .tmp t :: l, .c b k g :: rs, s, vs, h, _, _ => by simp [resOK] at h
  | .tmp t :: l, .t r :: rs, s, vs, h, hv, hs => by
    simp only [resOK, Bool.and_eq_true] at h
    obtain ⟨ht, h⟩ := h
    have ht : t = r := by simpa using ht
    subst ht
    simp only [rvs, rv1] at hv
    cases e1 : lk e t with
    | none => rw [e1] at hv; cases hv
    | some v =>
      rw [e1] at hv; simp only at hv
      cases e2 : rvs e bx rs with
      | none => rw [e2] at hv; cases hv
      | some p =>
        obtain ⟨s2, ws⟩ := p
        rw [e2] at hv; simp at hv
        obtain ⟨hs', rfl⟩ := hv
        have hs2 : s2 := by rw [← hs'] at hs; exact hs
        have ih := rvs_run f i h e2 hs2
        have hg := f.get t v e1 (fun p hp => by cases hp)
        simp only [List.mapM_cons, Sem.run_bind, Sem.run_pure, Result.andThen_ok]
        rw [ih]
        simp [hg]
  | .cell b T :: l, .c b' k g :: rs, s, vs, h, hv, hs => by
    simp only [resOK, Bool.and_eq_true, decide_eq_true_eq, Bool.or_eq_true] at h
    obtain ⟨⟨⟨⟨⟨hb, hag⟩, hsz⟩, h1⟩, hk⟩, h⟩ := h
    have hb : b = b' := by simpa using hb
    subst hb
    simp only [rvs, rv1] at hv
    cases e1 : lk e b with
    | none => rw [e1] at hv; cases hv
    | some p =>
      cases e3 : getB bx b with
      | none => rw [e1, e3] at hv; cases hv
      | some bb =>
        rw [e1, e3] at hv; simp only at hv
        cases e2 : rvs e bx rs with
        | none => rw [e2] at hv; cases hv
        | some q =>
          obtain ⟨s2, ws⟩ := q
          rw [e2] at hv; simp at hv
          obtain ⟨hs', rfl⟩ := hv
          rw [← hs'] at hs
          obtain ⟨⟨rfl, hl⟩, hs2⟩ := hs
          have ih := rvs_run f i h e2 hs2
          have hg := f.get b _ e1 (fun p hp => by cases hp)
          have hblk := i.at_ (mem_props (own := own) e3)
          have hone : g = false → k = 1 := fun hh => by
            rcases h1 with q | q
            · rw [hh] at q; cases q
            · exact q
          have hload := run_loadVar' (P := P) hag hsz (w := w) (b := bb.blk) (o := 0) (cells := bb.cells) hl hk hone (fun j v hj => by rw [cell_of_block hblk]; simpa using hj)
          simp only [List.mapM_cons, Sem.run_bind, Sem.run_pure, Result.andThen_ok]
          have hga : a.tmps.getD b undef = .pointer (some ⟨bb.blk, 0, none⟩) := by simp [hg]
          have hpa : (asAddr (.pointer (some ⟨bb.blk, 0, none⟩))).run P w = .ok ⟨bb.blk, 0, none⟩ w := rfl
          rw [hga]
          simp only [Sem.run_bind, hpa, Result.andThen_ok, hload]
          rw [ih]
          rfl

theorem Fn_of_W {P : Program} {D : Nat → Array Oper → List Nat → List I0 → List Nat → Bool} {f : FuncId} {fn : Func} {c : Code} {s : SC} {rs : List RV} {vs : List Value} {own : List HP} {u : Mem} {Q : Value → List HP → Mem → Prop}
    (hf : P.funcs[f]? = some fn) (hb : fn.body = some c) (hn : (fn.name == "runtime.NumGoroutine") = false) (hc : chkC P fn.ntmps (D fn.ntmps) s c = true) (hr : resOK P fn.results.toList rs = true) (hlen : vs.length ≤ fn.ntmps)
    (h : ∀ cx : Ctx, cx.u = u → W P D fn.ntmps cx s (RetQ cx rs Q) (env0 0 vs) [] own u) : Fn P f vs own u Q := by
  refine ⟨⟨fn, hf, hn, by simp [hb]⟩, fun w hp hs hd hh hu => ?_⟩
  refine calls_of_wp hf hb ?_
  have i : Inv ⟨w, hp, u⟩ (props [] own) u w := by simpa [props] using Inv.start hs hd hh hu
  refine wp_mono (h ⟨w, hp, u⟩ rfl c hc _ w ⟨rfl, ?_, fun t v hv _ => ?_, fun t v _ hc => absurd (fun p hp => by cases hp) hc⟩ i) ?_
  · simp; omega
  · obtain ⟨_, h2⟩ := lk_env0 hv
    simp at h2
    obtain ⟨hlt, h3⟩ := List.getElem?_eq_some_iff.1 h2
    rw [Array.getElem?_append_left (by simpa using hlt)]
    simpa using h2
  · have fin : ∀ a' w', lift fn.ntmps ⟨w, hp, u⟩ (fun e bx own u' => ∃ s v own' u'', retV e bx rs = some (s, v) ∧ s ∧ (∀ w', Inv ⟨w, hp, u⟩ (props bx own) u' w' → Inv ⟨w, hp, u⟩ own' u'' w') ∧ Q v own' u'') a' w' →
        a'.defers = [] ∧ ∃ v, (results fn a'.tmps).run P w' = .ok v w' ∧ ∃ v_1 own' u', Ending.returned v = .returned v_1 ∧ Q v_1 own' u' ∧ Inv ⟨w, hp, u⟩ own' u' w' := by
      rintro a' w' ⟨e', bx', own', u', ⟨s, v, own'', u'', hv, hs, hg, hq⟩, f', i'⟩
      refine ⟨f'.defers, v, ?_, v, own'', u'', rfl, hq, hg w' i'⟩
      have hres : ∀ s (ws : List Value), rvs e' bx' rs = some (s, ws) → s → (results fn a'.tmps).run P w' = .ok (if h : ws.toArray.size = 1 then ws.toArray[0] else .tuple ws.toArray) w' := by
        intro s ws he hs
        have := rvs_run (P := P) f' i' hr he hs
        unfold results
        rw [← Array.toArray_toList (xs := fn.results)]
        rw [List.mapM_toArray]
        simp only [Sem.run_bind, Sem.run_map]
        refine (congrArg (fun r : Result (List Value) => (r.andThen fun a w' => Result.ok a.toArray w').andThen fun (a : Array Value) w' => Sem.run P (pure (if h : a.size = 1 then a[0] else Value.tuple a)) w') this).trans ?_
        rfl
      have hlen : ∀ (rs : List RV) s ws, rvs e' bx' rs = some (s, ws) → ws.length = rs.length := by
        intro rs
        induction rs with
        | nil => intro s ws h; simp [rvs] at h; simp [← h.2]
        | cons r rs ih =>
          intro s ws h
          simp only [rvs] at h
          split at h
          rotate_left
          · cases h
          split at h
          rotate_left
          · cases h
          rename_i e2
          simp at h
          rw [← h.2]
          simp [ih _ _ e2]
      match rs, hv, hres with
      | [r], hv, hres =>
        simp only [retV] at hv
        have := hres (s ∧ True) [v] (by simp [rvs, hv]) ⟨hs, trivial⟩
        simpa using this
      | [], hv, hres =>
        simp [retV, rvs] at hv
        have := hres True [] (by simp [rvs]) trivial
        rw [this, ← hv.2]; simp
      | r :: r' :: rs', hv, hres =>
        simp only [retV] at hv
        split at hv
        rotate_left
        · cases hv
        rename_i s2 ws he
        simp at hv
        obtain ⟨hs', rfl⟩ := hv
        have := hres s2 ws he (by rw [hs']; exact hs)
        have h1 := hlen _ _ _ he
        rw [this]
        rw [dif_neg (by simp at h1 ⊢; omega)]
    intro ex a' w' hp
    cases ex with
    | normal => exact fin a' w' hp
    | ret => exact fin a' w' hp
    | exit id => obtain ⟨_, _, _, _, hq, _⟩ := hp; exact hq.elim
    | goto l => exact hp.elim
    | panic ch => exact hp.elim
    | outgrown => exact hp.elim
end Go.Proofs.YtenmmfkgopffgaaGreatDoor
