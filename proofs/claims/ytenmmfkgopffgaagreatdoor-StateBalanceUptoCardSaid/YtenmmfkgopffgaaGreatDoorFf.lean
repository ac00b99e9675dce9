/- Regions, code, functions: the walk's own code SC, its check against the machine's code, the rules, and from a walk to a contract. -/
import Derived.Test.YtenmmfkgopffgaaGreatDoorFe
set_option linter.unusedVariables false
set_option linter.unusedSimpArgs false
namespace Go.Proofs.YtenmmfkgopffgaaGreatDoor
open Go

def dstOf : I0 → Option Nat
  | .p d _ _ => some d
  | .ld d _ _ _ _ => some d
  | .qc d _ _ _ => some d
  | .a d _ => d
def chkG (P : Program) (n : Nat) (ops : Array Oper) (gt : Nat) (want : Bool) : List (Nat × Gd) → List Nat → List Nat → List I0 → Option (List (Nat × Gd) × List Nat × List Nat)
  | σ, gs, ord, [] => some (σ, gs, ord)
  | σ, gs, j :: ord, x :: r => match ops[j]? with
    | some o => match gdOf ops o with
      | some (some (g, wn)) => if g = gt ∧ wn = want ∧ dstOf x ≠ some gt then (match chk1 P n σ gs none o x with
          | some (σ', gs') => chkG P n ops gt want σ' gs' ord r
          | none => none) else none
      | _ => none
    | none => none
  | _, _, [], _ :: _ => none
def chkS (P : Program) (n : Nat) (ops : Array Oper) : List (Nat × Gd) → List Nat → List Nat → List I → Option (List (Nat × Gd))
  | σ, _, ord, [] => if ord.isEmpty then some σ else none
  | σ, gs, j :: ord, .i x :: r => match ops[j]? with
    | some o => match gdOf ops o with
      | some gd => match chk1 P n σ gs gd o x with
        | some (σ', gs') => chkS P n ops σ' gs' ord r
        | none => none
      | none => none
    | none => none
  | _, _, [], .i _ :: _ => none
  | σ, gs, ord, .g gt want l :: r => if (csOf σ gt).isEmpty then (match chkG P n ops gt want σ gs ord l with
      | some (σ', gs', ord') => chkS P n ops σ' gs' ord' r
      | none => none) else none

section
variable {P : Program} {n : Nat} {ops : Array Oper} {cx : Ctx} {Q : Exit → Act → World → Prop}

theorem skip_ok {σ σ' : List (Nat × Gd)} {gs gs' : List Nat} {o : Oper} {x : I0} {e : Env} {a : Act} (hc : chk1 P n σ gs none o x = some (σ', gs')) (f : FitsC n σ e a) (hgs : gsIn σ gs) :
    FitsC n σ' (skipE [x] e) (a.put o.dst undef) ∧ gsIn σ' gs' := by
  have h0 : CondOK e [] := fun p hp => by cases hp
  cases x with
  | p d cs op =>
    simp only [chk1] at hc
    split at hc
    rotate_left
    · cases hc
    rename_i hcc
    obtain ⟨hdst, hdn, hdg, hfit, _⟩ := hcc
    simp [csFits] at hfit; subst hfit
    simp at hc; obtain ⟨rfl, rfl⟩ := hc
    rw [hdst]
    exact ⟨f.put hdn hdg hgs (cs := []) (fun p hp => by cases hp) (fun _ => rfl) (fun q => absurd h0 q), gsIn_cons hgs d []⟩
  | ld d cs y m agg =>
    simp only [chk1] at hc
    split at hc
    rotate_left
    · cases hc
    rename_i hcc
    obtain ⟨hdst, hdn, hdg, hfit, _⟩ := hcc
    simp [csFits] at hfit; subst hfit
    simp at hc; obtain ⟨rfl, rfl⟩ := hc
    rw [hdst]
    exact ⟨f.put hdn hdg hgs (cs := []) (fun p hp => by cases hp) (fun _ => rfl) (fun q => absurd h0 q), gsIn_cons hgs d []⟩
  | qc d cs y ys =>
    simp only [chk1] at hc
    split at hc
    rotate_left
    · cases hc
    rename_i hcc
    obtain ⟨hdst, hdn, hdg, hfit, _⟩ := hcc
    simp [csFits] at hfit; subst hfit
    simp at hc; obtain ⟨rfl, rfl⟩ := hc
    rw [hdst]
    exact ⟨f.put hdn hdg hgs (cs := []) (fun p hp => by cases hp) (fun _ => rfl) (fun q => absurd h0 q), gsIn_cons hgs d []⟩
  | a d act =>
    simp only [chk1] at hc
    split at hc
    rotate_left
    · cases hc
    rename_i hcc
    obtain ⟨hdst, hdn, _⟩ := hcc
    rw [hdst]
    cases d with
    | none => simp [sgd] at hc; obtain ⟨rfl, rfl⟩ := hc; exact ⟨f, hgs⟩
    | some d =>
      simp [sgd] at hc; obtain ⟨rfl, rfl⟩ := hc
      simp [dOk] at hdn
      exact ⟨f.put hdn.1 hdn.2 hgs (cs := []) (fun p hp => by cases hp) (fun _ => rfl) (fun q => absurd h0 q), gsIn_cons hgs d []⟩

theorem skipE_cons (x : I0) (r : List I0) (e : Env) : skipE (x :: r) e = skipE r (skipE [x] e) := by
  cases x with
  | p d cs op => rfl
  | ld d cs y m agg => rfl
  | qc d cs y ys => rfl
  | a d act => cases d <;> rfl
theorem lk_skipE {x : I0} {e : Env} {g : Nat} (h : dstOf x ≠ some g) : lk (skipE [x] e) g = lk e g := by
  cases x with
  | p d cs op => exact lk_cons_ne (fun q => h (by rw [← q]; rfl)) _ _
  | ld d cs y m agg => exact lk_cons_ne (fun q => h (by rw [← q]; rfl)) _ _
  | qc d cs y ys => exact lk_cons_ne (fun q => h (by rw [← q]; rfl)) _ _
  | a d act =>
    cases d with
    | none => rfl
    | some d => exact lk_cons_ne (fun q => h (by rw [← q]; rfl)) _ _
theorem csOf_chk1 {σ σ' : List (Nat × Gd)} {gs gs' : List Nat} {o : Oper} {x : I0} (hc : chk1 P n σ gs none o x = some (σ', gs')) {g : Nat} (h : dstOf x ≠ some g) : csOf σ' g = csOf σ g := by
  cases x with
  | p d cs op =>
    simp only [chk1] at hc
    split at hc
    rotate_left
    · cases hc
    simp at hc; obtain ⟨rfl, rfl⟩ := hc
    exact csOf_cons_ne (fun q => h (by rw [← q]; rfl)) _ _
  | ld d cs y m agg =>
    simp only [chk1] at hc
    split at hc
    rotate_left
    · cases hc
    simp at hc; obtain ⟨rfl, rfl⟩ := hc
    exact csOf_cons_ne (fun q => h (by rw [← q]; rfl)) _ _
  | qc d cs y ys =>
    simp only [chk1] at hc
    split at hc
    rotate_left
    · cases hc
    simp at hc; obtain ⟨rfl, rfl⟩ := hc
    exact csOf_cons_ne (fun q => h (by rw [← q]; rfl)) _ _
  | a d act =>
    simp only [chk1] at hc
    split at hc
    rotate_left
    · cases hc
    cases d with
    | none => simp [sgd] at hc; obtain ⟨rfl, rfl⟩ := hc; rfl
    | some d =>
      simp [sgd] at hc; obtain ⟨rfl, rfl⟩ := hc
      exact csOf_cons_ne (fun q => h (by rw [← q]; rfl)) _ _

theorem gdOf_wanted {o : Oper} {g : Nat} {want : Bool} (h : gdOf ops o = some (some (g, want))) (t : Array Value) : Region.wanted o (yielded ops t) = (match t[g]? with
    | some (.bool b) => b == want
    | _ => false) := by
  unfold gdOf at h
  unfold Region.wanted
  cases hgu : o.guard with
  | none => rw [hgu] at h; cases h
  | some jw =>
    obtain ⟨j, wn⟩ := jw
    rw [hgu] at h; simp only at h
    cases hj : ops[j]? with
    | none => rw [hj] at h; cases h
    | some oj =>
      rw [hj] at h; simp only at h
      cases hd : oj.dst with
      | none => rw [hd] at h; cases h
      | some g' =>
        rw [hd] at h; simp at h; obtain ⟨rfl, rfl⟩ := h
        simp only [yielded, hj, hd, Option.bind_some]
        cases t[g']? with
        | none => rfl
        | some v => cases v <;> simp

/-- a group whose guard says no -/
theorem grp_skip {gt : Nat} {want : Bool} : ∀ (l : List I0) {σ σ' : List (Nat × Gd)} {gs gs' ord ord' : List Nat} {e : Env} {a : Act} {w : World}, chkG P n ops gt want σ gs ord l = some (σ', gs', ord') → FitsC n σ e a → gsIn σ gs →
    (∃ v, lk e gt = some v ∧ (∀ b, v = .bool b → b ≠ want)) → csOf σ gt = [] → (∀ a', FitsC n σ' (skipE l e) a' → gsIn σ' gs' → wpOps P ops Q ord' a' w) → wpOps P ops Q ord a w
  | [], σ, σ', gs, gs', ord, ord', e, a, w, hc, f, hgs, _, _, k => by
    simp [chkG] at hc; obtain ⟨rfl, rfl, rfl⟩ := hc; exact k a f hgs
  | x :: r, σ, σ', gs, gs', [], ord', e, a, w, hc, f, hgs, hv, h0, k => by simp [chkG] at hc
  | x :: r, σ, σ', gs, gs', j :: ord, ord', e, a, w, hc, f, hgs, hv, h0, k => by
    simp only [chkG] at hc
    cases ho : ops[j]? with
    | none => rw [ho] at hc; cases hc
    | some o =>
      rw [ho] at hc; simp only at hc
      split at hc
      rotate_left
      · cases hc
      rename_i g wn hgd
      split at hc
      rotate_left
      · cases hc
      rename_i hcc
      obtain ⟨rfl, rfl, hdx⟩ := hcc
      split at hc
      rotate_left
      · cases hc
      rename_i σ1 gs1 hc1
      obtain ⟨v, hlk, hb⟩ := hv
      have ht := f.get g v hlk (by rw [h0]; exact fun p hp => by cases hp)
      rw [wpOps_cons]
      unfold wpOp
      rw [ho]
      simp only
      have hnw : Region.wanted o (yielded ops a.tmps) = false := by
        rw [gdOf_wanted hgd, ht]
        cases v <;> simp
        exact fun q => hb _ rfl q
      rw [hnw]
      simp only [Bool.false_eq_true, if_false]
      obtain ⟨f', hgs'⟩ := skip_ok hc1 f hgs
      exact grp_skip r hc f' hgs' ⟨v, by rw [lk_skipE hdx]; exact hlk, hb⟩ (by rw [csOf_chk1 hc1 hdx]; exact h0) (fun a' fa ga => k a' (by rw [skipE_cons]; exact fa) ga)

theorem lk_putd {d : Option Nat} {v : Value} {e : Env} {g : Nat} (h : d ≠ some g) : lk (putd d v e) g = lk e g := by
  cases d with
  | none => rfl
  | some d => exact lk_cons_ne (fun q => h (by rw [q])) _ _

/-- the guard's slot through one item -/
theorem WS0_lk {K : Env → List Box → List HP → Mem → Prop} {x : I0} {e : Env} {bx : List Box} {own : List HP} {u : Mem} {g : Nat} (h : WS0 P K [x] e bx own u) (hd : dstOf x ≠ some g) :
    WS0 P (fun e' bx' own' u' => K e' bx' own' u' ∧ lk e' g = lk e g) [x] e bx own u := by
  cases x with
  | p d cs op =>
    simp only [WS0] at h ⊢
    split at h
    rotate_left
    · exact h.elim
    exact ⟨h.1, h.2.1, h.2.2, lk_cons_ne (fun q => hd (by rw [← q]; rfl)) _ _⟩
  | ld d cs y m agg =>
    simp only [WS0] at h ⊢
    split at h
    rotate_left
    · exact h.elim
    obtain ⟨cells, h1, h2, h3, h4⟩ := h
    exact ⟨cells, h1, h2, h3, h4, lk_cons_ne (fun q => hd (by rw [← q]; rfl)) _ _⟩
  | qc d cs y ys =>
    simp only [WS0] at h ⊢
    split at h
    rotate_left
    · exact h.elim
    obtain ⟨v, h1, h2, h4⟩ := h
    exact ⟨v, h1, h2, h4, lk_cons_ne (fun q => hd (by rw [← q]; rfl)) _ _⟩
  | a d act =>
    simp only [WS0] at h ⊢
    have hl : ∀ v, lk (putd d v e) g = lk e g := fun v => lk_putd hd
    exact A.wp_mono (act := act) h fun v bx own u hk => ⟨hk, hl v⟩

theorem WS0_cons {K : Env → List Box → List HP → Mem → Prop} {x : I0} {r : List I0} {e : Env} {bx : List Box} {own : List HP} {u : Mem} : WS0 P K (x :: r) e bx own u = WS0 P (WS0 P K r) [x] e bx own u := by
  cases x <;> rfl

/-- a group whose guard says yes -/
theorem grp_run {K : Env → List Box → List HP → Mem → Prop} {gt : Nat} {want : Bool} : ∀ (l : List I0) {σ σ' : List (Nat × Gd)} {gs gs' ord ord' : List Nat} {e : Env} {bx : List Box} {own : List HP} {u : Mem} {a : Act} {w : World},
    chkG P n ops gt want σ gs ord l = some (σ', gs', ord') → WS0 P K l e bx own u → FitsC n σ e a → gsIn σ gs → Inv cx (props bx own) u w → lk e gt = some (.bool want) → csOf σ gt = [] →
    (∀ e' bx' own' u' a' w', K e' bx' own' u' → FitsC n σ' e' a' → gsIn σ' gs' → Inv cx (props bx' own') u' w' → wpOps P ops Q ord' a' w') → wpOps P ops Q ord a w
  | [], σ, σ', gs, gs', ord, ord', e, bx, own, u, a, w, hc, hw, f, hgs, i, _, _, k => by
    simp [chkG] at hc; obtain ⟨rfl, rfl, rfl⟩ := hc; exact k _ _ _ _ _ _ hw f hgs i
  | x :: r, σ, σ', gs, gs', [], ord', e, bx, own, u, a, w, hc, hw, f, hgs, i, _, _, k => by simp [chkG] at hc
  | x :: r, σ, σ', gs, gs', j :: ord, ord', e, bx, own, u, a, w, hc, hw, f, hgs, i, hv, h0, k => by
    simp only [chkG] at hc
    cases ho : ops[j]? with
    | none => rw [ho] at hc; cases hc
    | some o =>
      rw [ho] at hc; simp only at hc
      split at hc
      rotate_left
      · cases hc
      rename_i g wn hgd
      split at hc
      rotate_left
      · cases hc
      rename_i hcc
      obtain ⟨rfl, rfl, hdx⟩ := hcc
      split at hc
      rotate_left
      · cases hc
      rename_i σ1 gs1 hc1
      have ht := f.get g _ hv (by rw [h0]; exact fun p hp => by cases hp)
      rw [wpOps_cons]
      rw [WS0_cons] at hw
      refine one_sound ho (.inr ⟨rfl, ?_⟩) hc1 (WS0_lk hw hdx) f hgs i ?_
      · rw [gdOf_wanted hgd, ht]; simp
      · rintro e' bx' own' u' a' w' ⟨hK, hl⟩ f' hgs' i'
        exact grp_run r hc hK f' hgs' i' (hl.trans hv) (by rw [csOf_chk1 hc1 hdx]; exact h0) k

theorem seq_sound {K : Env → List Box → List HP → Mem → Prop} : ∀ (l : List I) {σ σ' : List (Nat × Gd)} {gs ord : List Nat} {e : Env} {bx : List Box} {own : List HP} {u : Mem} {a : Act} {w : World},
    chkS P n ops σ gs ord l = some σ' → WS P K l e bx own u → FitsC n σ e a → gsIn σ gs → Inv cx (props bx own) u w →
    (∀ e' bx' own' u' a' w', K e' bx' own' u' → FitsC n σ' e' a' → Inv cx (props bx' own') u' w' → Q .normal a' w') → wpOps P ops Q ord a w
  | [], σ, σ', gs, ord, e, bx, own, u, a, w, hc, hw, f, hgs, i, k => by
    simp only [chkS] at hc
    cases ord with
    | nil => simp at hc; subst hc; exact k _ _ _ _ _ _ hw f i
    | cons j r => simp at hc
  | .i x :: r, σ, σ', gs, [], e, bx, own, u, a, w, hc, hw, f, hgs, i, k => by simp [chkS] at hc
  | .i x :: r, σ, σ', gs, j :: ord, e, bx, own, u, a, w, hc, hw, f, hgs, i, k => by
    simp only [chkS] at hc
    cases ho : ops[j]? with
    | none => rw [ho] at hc; cases hc
    | some o =>
      rw [ho] at hc; simp only at hc
      split at hc
      rotate_left
      · cases hc
      rename_i gd hgd
      split at hc
      rotate_left
      · cases hc
      rename_i σ1 gs1 hc1
      rw [wpOps_cons]
      simp only [WS] at hw
      exact one_sound ho (.inl hgd) hc1 hw f hgs i fun e' bx' own' u' a' w' hK f' hgs' i' => seq_sound r hc hK f' hgs' i' k
  | .g gt want l :: r, σ, σ', gs, ord, e, bx, own, u, a, w, hc, hw, f, hgs, i, k => by
    simp only [chkS] at hc
    split at hc
    rotate_left
    · cases hc
    rename_i h0
    have h0 : csOf σ gt = [] := by simpa using h0
    split at hc
    rotate_left
    · cases hc
    rename_i σ1 gs1 ord1 hcg
    simp only [WS] at hw
    split at hw
    · rename_i b hb
      by_cases hbw : b = want
      · subst hbw
        exact grp_run l hcg (hw.1 rfl) (f.pin hb) hgs i (lk_cons_same _ _ _) h0 fun e' bx' own' u' a' w' hK f' hgs' i' => seq_sound r hc hK f' hgs' i' k
      · have hnb : b = !want := by cases b <;> cases want <;> simp_all
        have hb2 : lk e gt = some (.bool (!want)) := by rw [hb, hnb]
        exact grp_skip l hcg (f.pin hb2) hgs ⟨_, lk_cons_same _ _ _, fun b' hb' => by simp at hb'; subst hb'; cases b' <;> simp⟩ h0 fun a' fa ga => seq_sound r hc (hw.2 hnb) fa ga i k
    · rename_i vs hb
      exact grp_skip l hcg f hgs ⟨_, hb, fun b' hb' => by cases hb'⟩ h0 fun a' fa ga => seq_sound r hc hw fa ga i k
    · exact hw.elim
end
end Go.Proofs.YtenmmfkgopffgaaGreatDoor
