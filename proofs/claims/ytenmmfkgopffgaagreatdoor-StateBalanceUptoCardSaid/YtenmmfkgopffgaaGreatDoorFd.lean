/- Acts (calls, boxes, stores into boxes), the meaning of a list of items, and that the machine does it in the text's order. -/
import Derived.Test.YtenmmfkgopffgaaGreatDoorFc
set_option linter.unusedVariables false
set_option linter.unusedSimpArgs false
namespace Go.Proofs.YtenmmfkgopffgaaGreatDoor
open Go

inductive A where
  | call (f : FuncId) (xs : List Operand)
  | callv (x : Operand) (xs : List Operand)
  | box (nm : Nat) (T : TypeId) (z : List Value)
  | boxv (nm : Nat) (T : TypeId) (x : Operand)
  | bst (b off n : Nat) (x v : Operand)
  | ost (n : Nat) (x v : Operand)
  | bsp (T : TypeId) (k : Nat) (xs : List Operand)
  | app (E : TypeId) (k by_ : Nat) (x y : Operand)
  | mkm
  | lkm (z : Value) (x i : Operand)
  | upm (x i v : Operand)

/-- cells lie in persistent memory at this address -/
def urow (u : Mem) (b o : Nat) (cells : List Value) : Prop := ∃ c T fz, u b = some (.cells c T fz) ∧ (c.toList.drop o).take cells.length = cells
/-- the cells of a list of values of k cells each -/
def flatC : List Value → List Value
  | [] => []
  | v :: r => vcells v ++ flatC r
def lenAll (k : Nat) : List Value → Prop
  | [] => True
  | v :: r => (vcells v).length = k ∧ lenAll k r
/-- cells lie in a box at this address -/
def brow (bx : List Box) (b o : Nat) (cells : List Value) : Prop := ∃ w ∈ bx, w.blk = b ∧ (w.cells.drop o).take cells.length = cells
/-- cells that may be read at this address -/
def lrow (bx : List Box) (u : Mem) (b o : Nat) (cells : List Value) : Prop := urow u b o cells ∨ brow bx b o cells
/-- A slice that is owned, and may grow: v, of n elements of type E (k cells each), holds xs. -/
def Row (E : TypeId) (k : Nat) (v : Value) (n : Nat) (xs : List Value) : HP := fun h =>
  xs.length = n * k ∧ ((v = .slice none 0 0 ∧ n = 0 ∧ emp h) ∨
    ∃ g cap cur, v = .slice (some ⟨g, 0, none⟩) n cap ∧ Blk g (.cells cur E (0, 0)) h ∧ n ≤ cap ∧ cap ≤ maxLen ∧ cur.size = cap * k ∧ cur.toList.take (n * k) = xs)
/-- A map with whole numbers as keys that is owned: its entries in order. -/
def IMap (b : Nat) (l : List (Int × Value)) : HP := fun h => ∃ es clock, Blk b (.map es clock) h ∧ es.toList.map (fun e => (e.key, e.val)) = l.map (fun p => (Value.int .i64 p.1, p.2))
def mget : List (Int × Value) → Int → Value → Value
  | [], _, z => z
  | (a, v) :: r, k, z => bif k == a then v else mget r k z
def mput : List (Int × Value) → Int → Value → List (Int × Value)
  | [], k, v => [(k, v)]
  | (a, x) :: r, k, v => bif k == a then (k, v) :: r else (a, x) :: mput r k v

def all1 : List Value → Prop
  | [] => True
  | v :: r => v.oneCell' = true ∧ all1 r

/-- A call: what it takes of what is owned, its contract, and what is made of what it leaves. -/
def CallW (P : Program) (f : FuncId) (vs : List Value) (R : Value → List Box → List HP → Mem → Prop) (bx : List Box) (own : List HP) (u : Mem) : Prop :=
  ∃ ownf rest u1, (∀ cx w, Inv cx (props bx own) u w → Inv cx (ownf ++ rest) u1 w) ∧ ∃ Q, Fn P f vs ownf u1 Q ∧
    ∀ v own' u', Q v own' u' → mle u1 u' → ∃ bx' own'' u'', (∀ cx w, Inv cx (own' ++ rest) u' w → Inv cx (props bx' own'') u'' w) ∧ R v bx' own'' u''

def A.wp (P : Program) (e : Env) (bx : List Box) (own : List HP) (u : Mem) (R : Value → List Box → List HP → Mem → Prop) : A → Prop
  | .call f xs => match evs e xs with
    | some vs => CallW P f vs R bx own u
    | none => False
  | .callv x xs => match ev e x with
    | some (.func (.func f) first caps) => match evs e xs with
      | some vs => CallW P f (first.toList ++ vs ++ caps.toList) R bx own u
      | none => False
    | _ => False
  | .box nm T z => ∀ blk : Nat, R (.pointer (some ⟨blk, 0, none⟩)) (⟨nm, blk, z, T⟩ :: bx) own u
  | .boxv nm T x => match ev e x with
    | some v => ∀ blk : Nat, R (.pointer (some ⟨blk, 0, none⟩)) (⟨nm, blk, vcells v, T⟩ :: bx) own u
    | none => False
  | .bst b off n x v => match getB bx b, ev e x, ev e v with
    | some w, some p, some q => (p = .pointer (some ⟨w.blk, off, none⟩) ∧ (vcells q).length = n ∧ off + n ≤ w.cells.length ∧ all1 (vcells q)) ∧ R undef (setB bx b (setAt w.cells off (vcells q))) own u
    | _, _, _ => False
  | .ost n x v => match ev e x, ev e v with
    | some (.pointer (some ⟨b, o, sp⟩)), some q => ∃ (nm : Nat) (w : Box), getB bx nm = some w ∧ w.blk = b ∧ sp = none ∧ (vcells q).length = n ∧ o + n ≤ w.cells.length ∧ all1 (vcells q) ∧ R undef (setB bx nm (setAt w.cells o (vcells q))) own u
    | _, _ => False
  | .bsp T k xs => match evs e xs with
    | some vs => (lenAll k vs ∧ ∀ (blk : Nat) (u' : Mem), mle u u' → u' blk = some (.cells (flatC vs).toArray T (0, 0)) → R (.slice (some ⟨blk, 0, none⟩) vs.length vs.length) bx own u') ∨
        (vs = [] ∧ ∀ blk : Nat, R (.slice (some ⟨blk, 0, none⟩) 0 0) bx (Row T k (.slice (some ⟨blk, 0, none⟩) 0 0) 0 [] :: own) u)
    | none => False
  | .app E k by_ x y => match ev e x, ev e y with
    | some v, some (.slice a m _) => ∃ (n : Nat) (xs : List Value) (own0 : List HP) (news : List Value), List.Perm own (Row E k v n xs :: own0) ∧ news.length = m * k ∧ (0 < m → ∃ b o, a = some ⟨b, o, none⟩ ∧ urow u b o news) ∧ all1 news ∧
        (n + m) * by_ ≤ 140737488355328 ∧ n + m ≤ 9223372036854775807 ∧ ∀ v', (∃ a c, v' = .slice a (n + m) c) → R v' bx (Row E k v' (n + m) (xs ++ news) :: own0) u
    | _, _ => False
  | .mkm => ∀ blk : Nat, R (.map (some blk)) bx (IMap blk [] :: own) u
  | .lkm z x i => match ev e x, ev e i with
    | some (.map (some b)), some (.int k j) => ∃ (l : List (Int × Value)) (own0 : List HP), k = .i64 ∧ List.Perm own (IMap b l :: own0) ∧ R (mget l j z) bx own u
    | _, _ => False
  | .upm x i y => match ev e x, ev e i, ev e y with
    | some (.map (some b)), some (.int k j), some v => ∃ (l : List (Int × Value)) (own0 : List HP), k = .i64 ∧ List.Perm own (IMap b l :: own0) ∧ R undef bx (IMap b (mput l j v) :: own0) u
    | _, _, _ => False

theorem CallW.mono {P : Program} {f : FuncId} {vs : List Value} {R R' : Value → List Box → List HP → Mem → Prop} {bx : List Box} {own : List HP} {u : Mem} (h : CallW P f vs R bx own u) (r : ∀ v bx own u, R v bx own u → R' v bx own u) : CallW P f vs R' bx own u := by
  obtain ⟨ownf, rest, u1, h1, Q, h2, h3⟩ := h
  refine ⟨ownf, rest, u1, h1, Q, h2, fun v o u' q l => ?_⟩
  obtain ⟨bx', o', u'', g1, g2⟩ := h3 v o u' q l
  exact ⟨bx', o', u'', g1, r _ _ _ _ g2⟩
theorem A.wp_mono {P : Program} {e : Env} {bx : List Box} {own : List HP} {u : Mem} {act : A} {R R' : Value → List Box → List HP → Mem → Prop} (h : act.wp P e bx own u R) (r : ∀ v bx own u, R v bx own u → R' v bx own u) : act.wp P e bx own u R' := by
  cases act <;> simp only [A.wp] at h ⊢
  case call f xs =>
    split at h
    · exact h.mono r
    · exact h.elim
  case callv x xs =>
    split at h
    · split at h
      · exact h.mono r
      · exact h.elim
    · exact h.elim
  case box nm T z => exact fun blk => r _ _ _ _ (h blk)
  case boxv nm T x =>
    split at h
    · exact fun blk => r _ _ _ _ (h blk)
    · exact h.elim
  case bst b off n x v =>
    split at h
    · exact ⟨h.1, r _ _ _ _ h.2⟩
    · exact h.elim
  case ost n x v =>
    split at h
    · obtain ⟨nm, w, h1, h2, h3, h4, h5, h6, h7⟩ := h
      exact ⟨nm, w, h1, h2, h3, h4, h5, h6, r _ _ _ _ h7⟩
    · exact h.elim
  case bsp T k xs =>
    split at h
    · exact h.imp (fun h => ⟨h.1, fun blk u' a b => r _ _ _ _ (h.2 blk u' a b)⟩) (fun h => ⟨h.1, fun blk => r _ _ _ _ (h.2 blk)⟩)
    · exact h.elim
  case app E k by_ x y =>
    split at h
    · obtain ⟨n, xs, own0, news, h1, h2, h3, h4, h5, h6, h7⟩ := h
      exact ⟨n, xs, own0, news, h1, h2, h3, h4, h5, h6, fun v' hv' => r _ _ _ _ (h7 v' hv')⟩
    · exact h.elim
  case mkm => exact fun blk => r _ _ _ _ (h blk)
  case lkm z x i =>
    split at h
    · obtain ⟨l, own0, h1, h2, h3⟩ := h
      exact ⟨l, own0, h1, h2, r _ _ _ _ h3⟩
    · exact h.elim
  case upm x i y =>
    split at h
    · obtain ⟨l, own0, h1, h2, h3⟩ := h
      exact ⟨l, own0, h1, h2, r _ _ _ _ h3⟩
    · exact h.elim

abbrev Gd := List (Nat × Bool)
inductive I0 where
  | p (d : Nat) (cs : Gd) (op : PI)
  | ld (d : Nat) (cs : Gd) (x : Operand) (n : Nat) (agg : Bool)
  | qc (d : Nat) (cs : Gd) (x : Operand) (xs : List Operand)
  | a (d : Option Nat) (act : A)
inductive I where
  | i (x : I0)
  | g (gt : Nat) (want : Bool) (l : List I0)

def gok (e : Env) : Gd → Prop
  | [] => True
  | (g, _) :: r => match lk e g with
    | some (.bool _) => gok e r
    | _ => False
def cond (e : Env) : Gd → Prop
  | [] => True
  | (g, want) :: r => (match lk e g with
    | some (.bool b) => b = want
    | _ => False) ∧ cond e r
def under (e : Env) (cs : Gd) (s : Prop) : Prop := match cs with
  | [] => s
  | c :: r => cond e (c :: r) → s
/-- A call that leaves nothing behind, and of which the value is known. -/
def QFn (P : Program) (f : FuncId) (vs : List Value) (u : Mem) (v : Value) : Prop := Fn P f vs [] u fun v' own' u' => v' = v ∧ own' = [] ∧ u' = u
def putd : Option Nat → Value → Env → Env
  | some d, v, e => (d, v) :: e
  | none, _, e => e

def WS0 (P : Program) (K : Env → List Box → List HP → Mem → Prop) : List I0 → Env → List Box → List HP → Mem → Prop
  | [], e, bx, own, u => K e bx own u
  | .p d cs op :: r, e, bx, own, u => match op.val e bx with
    | some (s, v) => gok e cs ∧ under e cs s ∧ WS0 P K r ((d, v) :: e) bx own u
    | none => False
  | .ld d cs x n agg :: r, e, bx, own, u => match ev e x with
    | some (.pointer (some ⟨b, o, sp⟩)) => ∃ cells : List Value, gok e cs ∧ under e cs (sp = none ∧ lrow bx u b o cells) ∧ cells.length = n ∧ WS0 P K r ((d, mkv agg cells) :: e) bx own u
    | _ => False
  | .qc d cs x xs :: r, e, bx, own, u => match ev e x, evs e xs with
    | some (.func (.func f) first caps), some vs => ∃ v : Value, gok e cs ∧ under e cs (QFn P f (first.toList ++ vs ++ caps.toList) u v) ∧ WS0 P K r ((d, v) :: e) bx own u
    | _, _ => False
  | .a d act :: r, e, bx, own, u => act.wp P e bx own u fun v bx own u => WS0 P K r (putd d v e) bx own u

def skipE : List I0 → Env → Env
  | [], e => e
  | .p d _ _ :: r, e => skipE r ((d, undef) :: e)
  | .ld d _ _ _ _ :: r, e => skipE r ((d, undef) :: e)
  | .qc d _ _ _ :: r, e => skipE r ((d, undef) :: e)
  | .a (some d) _ :: r, e => skipE r ((d, undef) :: e)
  | .a none _ :: r, e => skipE r e

def WS (P : Program) (K : Env → List Box → List HP → Mem → Prop) : List I → Env → List Box → List HP → Mem → Prop
  | [], e, bx, own, u => K e bx own u
  | .i x :: r, e, bx, own, u => WS0 P (WS P K r) [x] e bx own u
  | .g gt want l :: r, e, bx, own, u => match lk e gt with
    | some (.bool b) => (b = want → WS0 P (WS P K r) l ((gt, .bool want) :: e) bx own u) ∧ (b = (!want) → WS P K r (skipE l ((gt, .bool (!want)) :: e)) bx own u)
    | some (.tuple _) => WS P K r (skipE l e) bx own u
    | _ => False

/-! ### The slots -/
def csOf : List (Nat × Gd) → Nat → Gd
  | [], _ => []
  | (s, c) :: r, t => bif s == t then c else csOf r t
def CondOK (e : Env) (cs : Gd) : Prop := ∀ p ∈ cs, lk e p.1 = some (.bool p.2)
structure FitsC (n : Nat) (σ : List (Nat × Gd)) (e : Env) (a : Act) : Prop where
  defers : a.defers = []
  size : a.tmps.size = n
  get : ∀ t v, lk e t = some v → CondOK e (csOf σ t) → a.tmps[t]? = some v
  no : ∀ t v, lk e t = some v → ¬ CondOK e (csOf σ t) → a.tmps[t]? = some undef

theorem lk_cons_same (d : Nat) (v : Value) (e : Env) : lk ((d, v) :: e) d = some v := by simp [lk]
theorem lk_cons_ne {d t : Nat} (h : d ≠ t) (v : Value) (e : Env) : lk ((d, v) :: e) t = lk e t := by
  have : (d == t) = false := by simpa using h
  simp [lk, this]
theorem csOf_cons_same (d : Nat) (c : Gd) (σ : List (Nat × Gd)) : csOf ((d, c) :: σ) d = c := by simp [csOf]
theorem csOf_cons_ne {d t : Nat} (h : d ≠ t) (c : Gd) (σ : List (Nat × Gd)) : csOf ((d, c) :: σ) t = csOf σ t := by
  have : (d == t) = false := by simpa using h
  simp [csOf, this]
theorem cond_iff {e : Env} {cs : Gd} : cond e cs ↔ CondOK e cs := by
  induction cs with
  | nil => simp [cond, CondOK]
  | cons c r ih =>
    obtain ⟨g, w⟩ := c
    simp only [cond, ih]
    constructor
    · rintro ⟨h1, h2⟩ p hp
      rcases List.mem_cons.1 hp with rfl | hp
      · split at h1
        · subst h1; assumption
        · exact h1.elim
      · exact h2 p hp
    · intro h
      refine ⟨?_, fun p hp => h p (List.mem_cons_of_mem _ hp)⟩
      have := h (g, w) (by simp)
      simp only at this
      rw [this]
theorem under_iff {e : Env} {cs : Gd} {s : Prop} (h : under e cs s) (c : CondOK e cs) : s := by
  cases cs with
  | nil => exact h
  | cons x r => exact h (cond_iff.2 c)
theorem gok_mem {e : Env} {cs : Gd} (h : gok e cs) : ∀ p ∈ cs, ∃ b, lk e p.1 = some (.bool b) := by
  induction cs with
  | nil => intro p hp; cases hp
  | cons c r ih =>
    obtain ⟨g, w⟩ := c
    simp only [gok] at h
    split at h
    · rename_i b hb
      intro p hp
      rcases List.mem_cons.1 hp with rfl | hp
      · exact ⟨b, hb⟩
      · exact ih h p hp
    · exact h.elim

/-- all guards' slots that the conditions name -/
def gsIn (σ : List (Nat × Gd)) (gs : List Nat) : Prop := ∀ t, ∀ p ∈ csOf σ t, p.1 ∈ gs
theorem CondOK_cons {e : Env} {cs : Gd} {d : Nat} {v : Value} (h : ∀ p ∈ cs, p.1 ≠ d) : CondOK ((d, v) :: e) cs ↔ CondOK e cs := by
  constructor <;> (intro c p hp; have := c p hp; have hne := h p hp; first | (rw [lk_cons_ne (fun q => hne q.symm)] at this; exact this) | (rw [lk_cons_ne (fun q => hne q.symm)]; exact this))

/-- A slot is written: with the item's value where its conditions hold, else left undefined. -/
theorem FitsC.put {n : Nat} {σ : List (Nat × Gd)} {e : Env} {a : Act} {gs : List Nat} (f : FitsC n σ e a) {d : Nat} (hd : d < n) (hg : d ∉ gs) (hgs : gsIn σ gs) {cs : Gd} (hcs : ∀ p ∈ cs, p.1 ≠ d) {v x : Value}
    (hx : CondOK e cs → x = v) (hn : ¬ CondOK e cs → x = undef) : FitsC n ((d, cs) :: σ) ((d, v) :: e) (a.put (some d) x) := by
  have hother : ∀ t, d ≠ t → (CondOK ((d, v) :: e) (csOf ((d, cs) :: σ) t) ↔ CondOK e (csOf σ t)) := fun t ht => by
    rw [csOf_cons_ne ht]
    exact CondOK_cons fun p hp q => hg (q ▸ hgs t p hp)
  have hself : CondOK ((d, v) :: e) (csOf ((d, cs) :: σ) d) ↔ CondOK e cs := by rw [csOf_cons_same]; exact CondOK_cons hcs
  refine ⟨f.defers, by simp [Act.put, f.size], fun t w hw hc => ?_, fun t w hw hc => ?_⟩
  · by_cases ht : d = t
    · subst ht
      rw [lk_cons_same] at hw
      have := hx (hself.1 hc)
      simp at hw; subst hw; subst this
      simp [Act.put, f.size, hd]
    · rw [lk_cons_ne ht] at hw
      have := f.get t w hw ((hother t ht).1 hc)
      simpa [Act.put, Array.getElem?_setIfInBounds_ne ht] using this
  · by_cases ht : d = t
    · subst ht
      have := hn (fun c => hc (hself.2 c))
      subst this
      simp [Act.put, f.size, hd]
    · rw [lk_cons_ne ht] at hw
      have := f.no t w hw (fun c => hc ((hother t ht).2 c))
      simpa [Act.put, Array.getElem?_setIfInBounds_ne ht] using this

/-- the guard's slot is pinned to what it is -/
theorem FitsC.pin {n : Nat} {σ : List (Nat × Gd)} {e : Env} {a : Act} (f : FitsC n σ e a) {g : Nat} {v : Value} (h : lk e g = some v) : FitsC n σ ((g, v) :: e) a := by
  have hl : ∀ t, lk ((g, v) :: e) t = lk e t := fun t => by
    by_cases ht : g = t
    · subst ht; rw [lk_cons_same, h]
    · exact lk_cons_ne ht _ _
  have hc : ∀ cs, CondOK ((g, v) :: e) cs ↔ CondOK e cs := fun cs => by
    constructor <;> (intro c p hp; have := c p hp; first | (rw [hl] at this; exact this) | (rw [hl]; exact this))
  exact ⟨f.defers, f.size, fun t w hw c => f.get t w (by rw [← hl]; exact hw) ((hc _).1 c), fun t w hw c => f.no t w (by rw [← hl]; exact hw) (fun q => c ((hc _).2 q))⟩

theorem FitsC.opk {n : Nat} {σ : List (Nat × Gd)} {e : Env} {a : Act} (f : FitsC n σ e a) {x : Operand} (h : ∀ t, x = .tmp t → CondOK e (csOf σ t)) : Opk e a x := by
  intro v hv
  cases x with
  | tmp t =>
    have := f.get t v hv (h t rfl)
    simp [Act.eval, this]
  | const c => simp [ev] at hv; subst hv; rfl
  | global g => simp [ev] at hv; subst hv; rfl
  | func g => simp [ev] at hv; subst hv; rfl

/-! ### The static check of one item against its operation -/
def subG : Gd → Gd → Bool
  | [], _ => true
  | p :: r, cs => cs.any (fun q => p.1 == q.1 && p.2 == q.2) && subG r cs
theorem subG_mem {a b : Gd} (h : subG a b = true) : ∀ p ∈ a, p ∈ b := by
  induction a with
  | nil => intro p hp; cases hp
  | cons x r ih =>
    simp only [subG, Bool.and_eq_true, List.any_eq_true] at h
    obtain ⟨⟨q, hq, hx⟩, h2⟩ := h
    intro p hp
    rcases List.mem_cons.1 hp with rfl | hp
    · simp at hx
      have : p = q := Prod.ext hx.1 hx.2
      rw [this]; exact hq
    · exact ih h2 p hp
theorem CondOK.sub {e : Env} {a b : Gd} (c : CondOK e b) (h : subG a b = true) : CondOK e a := fun p hp => c p (subG_mem h p hp)

def opOK (σ : List (Nat × Gd)) (cs : Gd) : Operand → Bool
  | .tmp t => subG (csOf σ t) cs
  | _ => true
def tg (x : Operand) (b : Bool) : Gd := match x with
  | .tmp t => [(t, b)]
  | _ => []
def readsOK (σ : List (Nat × Gd)) (cs : Gd) : PI → Bool
  | .mv x | .not x | .fld x .. | .len x | .slen x | .ext x _ | .fad x _ | .bld _ _ _ _ x | .nck x | .mki _ x | .cnv _ x => opOK σ cs x
  | .pick c x y | .picl c x y => opOK σ cs c && opOK σ (cs ++ tg c true) x && opOK σ (cs ++ tg c false) y
  | .ib _ _ x y | .sb _ x y | .bb _ x y => opOK σ cs x && opOK σ cs y
  | .mkf _ first caps => (first ++ caps).all (opOK σ cs)
  | .idx x i _ | .sq _ _ x i | .mnx _ _ x i | .six x i => opOK σ cs x && opOK σ cs i
  | .mks _ parts => (parts.map (·.2.2)).all (opOK σ cs)
  | .snil _ x | .inl _ x | .neg _ x => opOK σ cs x
  | .ssl x lo hi | .slc x lo hi _ => opOK σ cs x && (lo.toList ++ hi.toList).all (opOK σ cs)

theorem opOK_opk {n : Nat} {σ : List (Nat × Gd)} {e : Env} {a : Act} (f : FitsC n σ e a) {cs : Gd} (c : CondOK e cs) {x : Operand} (h : opOK σ cs x = true) : Opk e a x :=
  f.opk fun t ht => by subst ht; exact c.sub h

theorem CondOK_app {e : Env} {cs : Gd} (c : CondOK e cs) {x : Operand} {b : Bool} (h : ev e x = some (.bool b)) : CondOK e (cs ++ tg x b) := by
  intro p hp
  rcases List.mem_append.1 hp with hp | hp
  · exact c p hp
  · cases x with
    | tmp t => simp [tg] at hp; subst hp; exact h
    | _ => simp [tg] at hp

theorem readsOK_opk {n : Nat} {σ : List (Nat × Gd)} {e : Env} {a : Act} (f : FitsC n σ e a) {cs : Gd} (c : CondOK e cs) {p : PI} {bx : List Box} {sv : Prop × Value} (hv : p.val e bx = some sv) (h : readsOK σ cs p = true) : ∀ x ∈ p.reads e, Opk e a x := by
  intro x hx
  cases p <;> simp only [PI.reads, readsOK, Bool.and_eq_true] at hx h
  case pick c' y z =>
    simp only [PI.val] at hv
    split at hv
    · rename_i b v w ec ey ez
      rw [ec] at hx
      cases b with
      | true =>
        simp at hx
        rcases hx with rfl | rfl
        · exact opOK_opk f c h.1.1
        · exact opOK_opk f (CondOK_app c ec) h.1.2
      | false =>
        simp at hx
        rcases hx with rfl | rfl
        · exact opOK_opk f c h.1.1
        · exact opOK_opk f (CondOK_app c ec) h.2
    · cases hv
  case picl c' y z =>
    simp only [PI.val] at hv
    split at hv
    · rename_i ec
      rw [ec] at hx
      simp at hx
      rcases hx with rfl | rfl
      · exact opOK_opk f c h.1.1
      · exact opOK_opk f (CondOK_app c ec) h.1.2
    · rename_i ec
      rw [ec] at hx
      simp at hx
      rcases hx with rfl | rfl
      · exact opOK_opk f c h.1.1
      · exact opOK_opk f (CondOK_app c ec) h.2
    · cases hv
  case mkf fn first caps =>
    exact opOK_opk f c (List.all_eq_true.1 h x hx)
  case mks zs parts =>
    exact opOK_opk f c (List.all_eq_true.1 h x hx)
  case ssl y lo hi =>
    rcases List.mem_cons.1 hx with rfl | hx
    · exact opOK_opk f c h.1
    · exact opOK_opk f c (List.all_eq_true.1 h.2 x hx)
  case slc y lo hi k =>
    rcases List.mem_cons.1 hx with rfl | hx
    · exact opOK_opk f c h.1
    · exact opOK_opk f c (List.all_eq_true.1 h.2 x hx)
  all_goals
    simp at hx
    first
      | (subst hx; exact opOK_opk f c h)
      | (rcases hx with rfl | rfl
         · exact opOK_opk f c h.1
         · exact opOK_opk f c h.2)
end Go.Proofs.YtenmmfkgopffgaaGreatDoor
