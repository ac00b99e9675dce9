/- Pure items: the check against the machine's operation, and that the machine computes what the item says. -/
import Derived.Test.YtenmmfkgopffgaaGreatDoorFb
import Derived.Laws.Cells
import Derived.Laws.StructEq
set_option linter.unusedVariables false
set_option linter.unusedSimpArgs false
namespace Go.Proofs.YtenmmfkgopffgaaGreatDoor
open Go

def aggB (P : Program) (T : TypeId) : Option Bool :=
  match P.underlying T with
  | some (.struct _) | some (.array _ _) => some true
  | some _ => some false
  | none => none
def szB (P : Program) (T : TypeId) : Option Nat := (P.info? T).map (·.size)

section runs
variable {P : Program}
theorem run_underlying' {T : TypeId} {d : TypeDesc} (h : P.underlying T = some d) (w : World) : (underlying T).run P w = .ok d w := by
  simp [underlying, h]
theorem run_isAgg' {T : TypeId} {b : Bool} (h : aggB P T = some b) (w : World) : (isAgg T).run P w = .ok b w := by
  unfold aggB at h
  cases e : P.underlying T with
  | none => rw [e] at h; cases h
  | some d =>
    rw [e] at h
    simp only [isAgg, Sem.run_bind, run_underlying' e, Result.andThen_ok]
    cases d <;> simp at h <;> subst h <;> rfl
theorem run_sizeOf' {T : TypeId} {n : Nat} (h : szB P T = some n) (w : World) : (sizeOf T).run P w = .ok n w := by
  unfold szB at h
  cases e : P.info? T with
  | none => rw [e] at h; cases h
  | some i =>
    rw [e] at h
    simp at h
    simp [sizeOf, typeInfo, e, h]
theorem Addr.add_plain (b o j : Nat) : (⟨b, o, none⟩ : Addr).add j = ⟨b, o + j, none⟩ := by unfold Addr.add; split <;> simp_all
/-- n cells from off on of a block, loaded as a value. -/
theorem run_loadVar' {T : TypeId} {n : Nat} {agg : Bool} (ha : aggB P T = some agg) (hn : szB P T = some n) {w : World} {b o : Nat} {cells : List Value} (hl : cells.length = n) (h1 : 1 ≤ n) (hag : agg = false → n = 1)
    (h : ∀ j v, cells[j]? = some v → w.cell? ⟨b, o + j, none⟩ = some v) : (loadVar T ⟨b, o, none⟩).run P w = .ok (mkv agg cells) w := by
  cases agg with
  | true =>
    subst hl
    have := run_loadCells_list (P := P) w ⟨b, o, none⟩ cells (fun j v e => by rw [Addr.add_plain]; exact h j v e)
    simp only [loadVar, Sem.run_bind, run_isAgg' ha, run_sizeOf' hn, Result.andThen_ok, if_true, this]
    rfl
  | false =>
    obtain rfl := hag rfl
    match cells, hl with
    | [c], _ =>
      have := h 0 c rfl
      simp only [loadVar, Sem.run_bind, run_isAgg' ha, Result.andThen_ok, Bool.false_eq_true, if_false, run_load]
      simp at this
      simp [this, mkv]
theorem cell_of_block {w : World} {b : Nat} {c : Array Value} {T : TypeId} {fz : Nat × Nat} (h : w.heap[b]? = some (.cells c T fz)) (o : Nat) : w.cell? ⟨b, o, none⟩ = c[o]? := by
  simp [World.cell?, h]
end runs

def oneArg (args : Array Operand) : Option Operand := match args.toList with
  | [x] => some x
  | _ => none

def oosame : Option Operand → Option Operand → Bool
  | none, none => true
  | some a, some b => osame a b
  | _, _ => false
theorem oosame_eq {a b : Option Operand} (h : oosame a b = true) : a = b := by
  cases a <;> cases b <;> simp only [oosame] at h <;> first | rfl | (cases h; done) | (rw [osame_eq h])
def partsOk (P : Program) (fs : Array Field) (len : Nat) : List (Nat × Operand) → List (Nat × Nat × Operand) → Bool
  | [], [] => true
  | (i, y) :: ps, (off, n, x) :: r => osame y x && (match fs[i]? with
    | some fd => decide (fd.offset = off) && decide (szB P fd.type = some n) && decide (off + n ≤ len)
    | none => false) && partsOk P fs len ps r
  | _, _ => false
def flatStep (P : Program) (fl : TypeId → Option (List CK)) (acc : Option (List CK)) (fd : Field) : Option (List CK) := match acc with
  | some l => if fd.offset = l.length ∧ fd.name ≠ "_" then (match fl fd.type, szB P fd.type, aggB P fd.type with
    | some ks, some k', some b => if ks.length = k' ∧ (b = false → k' = 1) then some (l ++ ks) else none
    | _, _, _ => none) else none
  | none => none
/-- the kinds of the cells of a type whose values '==' compares cell by cell -/
def flat (P : Program) : Nat → TypeId → Option (List CK)
  | 0, _ => none
  | d + 1, T => match P.underlying T with
    | some (.int _) => some [.i]
    | some .bool => some [.b]
    | some .string => some [.s]
    | some (.struct fs) => if P.stoodInHeld T then none else fs.toList.foldl (flatStep P (flat P d)) (some [])
    | _ => none
/-- Does the operation do what the item says? -/
def PI.ok (P : Program) (op : Op) : PI → Bool
  | .mv x => match op with
    | .move y | .assign y => osame y x
    | _ => false
  | .pick c x y | .picl c x y => match op with
    | .pick c' x' y' => osame c' c && osame x' x && osame y' y
    | _ => false
  | .ib bop k x y => match op with
    | .binOp bop' _ x' y' _ => decide (bop' = bop) && ibOk bop && osame x' x && osame y' y
    | _ => false
  | .sb bop x y => match op with
    | .binOp bop' _ x' y' _ => decide (bop' = bop) && sbOk bop && osame x' x && osame y' y
    | _ => false
  | .bb ne x y => match op with
    | .binOp bop' T x' y' _ => decide (bop' = if ne then .neq else .eql) && (match P.underlying T with | some .bool => true | _ => false) && osame x' x && osame y' y
    | _ => false
  | .not x => match op with
    | .unOp .not _ y => osame y x
    | _ => false
  | .fld x off n agg => match op with
    | .field T y f => osame y x && (match P.underlying T with
      | some (.struct fs) => match fs[f]? with
        | some fd => decide (fd.offset = off) && decide (aggB P fd.type = some agg) && decide (szB P fd.type = some n) && (agg || decide (n = 1))
        | none => false
      | _ => false)
    | _ => false
  | .len x => match op with
    | .call { callee := .builtin .len, args, argTypes } => (match oneArg args with | some y => osame y x | none => false) && (match argTypes[0]? with
      | some T => (match P.underlying T with | some (.slice _) => true | _ => false)
      | none => false)
    | _ => false
  | .slen x => match op with
    | .call { callee := .builtin .len, args, argTypes } => (match oneArg args with | some y => osame y x | none => false) && (match argTypes[0]? with
      | some T => (match P.underlying T with | some .string => true | _ => false)
      | none => false)
    | _ => false
  | .mkf f fs caps => match op with
    | .makeFunc (.func g) first captured => decide (g = f) && olsame first.toList fs && olsame captured.toList caps
    | _ => false
  | .ext x i => match op with
    | .extract y j => osame y x && decide (j = i)
    | _ => false
  | .fad x off => match op with
    | .fieldAddr T y f => osame y x && (match P.underlying T with
      | some (.struct fs) => match fs[f]? with
        | some fd => decide (fd.offset = off) && (match szB P fd.type with | some (_ + 1) => true | _ => false)
        | none => false
      | _ => false)
    | _ => false
  | .idx x i k => match op with
    | .indexAddr T y j => osame y x && osame j i && (match P.underlying T with
      | some (.slice e) => decide (szB P e = some k)
      | _ => false)
    | _ => false
  | .bld _ _ n agg x => match op with
    | .load T y => osame y x && decide (aggB P T = some agg) && decide (szB P T = some n) && (agg || decide (n = 1))
    | _ => false
  | .nck x => match op with
    | .nilCheck y => osame y x
    | _ => false
  | .mki T x => match op with
    | .makeInterface T' y => decide (T' = T) && osame y x && (match P.underlying T with
      | some (.interface _) => false
      | some _ => true
      | none => false)
    | _ => false
  | .cnv k x => match op with
    | .convert src dst y => osame y x && (match P.underlying src with | some _ => true | none => false) && (match P.underlying dst with
      | some (.int k') => decide (k' = k)
      | _ => false)
    | _ => false
  | .mks zs parts => match op with
    | .build T ps => (match P.info? T with
      | some i => (match i.zero with | some v => vlsame (vcells v) zs | none => false)
      | none => false) && (match P.underlying T with
      | some (.struct fs) => fs.toList.all (fun fd => (szB P fd.type).isSome) && partsOk P fs zs.length ps.toList parts
      | _ => false)
    | _ => false
  | .sq ne ks x y => match op with
    | .binOp bop T x' y' _ => decide (bop = if ne then .neq else .eql) && osame x' x && osame y' y && decide (flat P 8 T = some ks) && decide (aggB P T = some true) && !(P.eqGuardType P.depth T)
    | _ => false
  | .snil ne x => match op with
    | .binOp bop T x' y' _ => decide (bop = if ne then .neq else .eql) && osame x' x && osame y' (.const (.slice none 0 0)) && (match P.underlying T with | some (.slice _) => true | _ => false)
    | _ => false
  | .inl ne x => match op with
    | .binOp bop T x' y' _ => decide (bop = if ne then .neq else .eql) && osame x' x && osame y' (.const .nilIface) && (match P.underlying T with | some (.interface _) => true | _ => false)
    | _ => false
  | .mnx mx _ x y => match op with
    | .call { callee := .builtin b, args, .. } => (match b with | .max => mx | .min => !mx | _ => false) && olsame args.toList [x, y]
    | _ => false
  | .ssl x lo hi => match op with
    | .slice T y l h m => osame y x && oosame l lo && oosame h hi && m.isNone && (match P.underlying T with | some .string => true | _ => false)
    | _ => false
  | .slc x lo hi k => match op with
    | .slice T y l h m => osame y x && oosame l lo && oosame h hi && m.isNone && (match P.underlying T with | some (.slice el) => decide (szB P el = some k) | _ => false)
    | _ => false
  | .six x i => match op with
    | .index T y j => osame y x && osame j i && (match P.underlying T with | some .string => true | _ => false)
    | _ => false
  | .neg _ x => match op with
    | .unOp .neg _ y => osame y x
    | _ => false

/-- The slots that an operand asks for hold what the walk says. -/
def Opk (e : Env) (a : Act) (x : Operand) : Prop := ∀ v, ev e x = some v → a.eval x = v

def PI.reads (e : Env) : PI → List Operand
  | .mv x | .not x | .fld x .. | .len x | .slen x | .ext x _ | .fad x _ | .bld _ _ _ _ x | .nck x | .mki _ x | .cnv _ x => [x]
  | .pick c x y => match ev e c with
    | some (.bool true) => [c, x]
    | some (.bool false) => [c, y]
    | _ => [c, x, y]
  | .picl c x y => match ev e c with
    | some (.bool true) => [c, x]
    | some (.bool false) => [c, y]
    | _ => [c, x, y]
  | .ib _ _ x y | .sb _ x y | .bb _ x y => [x, y]
  | .mkf _ first caps => first ++ caps
  | .idx x i _ => [x, i]
  | .mks _ parts => parts.map (·.2.2)
  | .sq _ _ x y | .mnx _ _ x y | .six x y => [x, y]
  | .snil _ x | .inl _ x | .neg _ x => [x]
  | .ssl x lo hi | .slc x lo hi _ => x :: (lo.toList ++ hi.toList)

theorem evs_map {e : Env} {a : Act} : ∀ {xs : List Operand} {vs : List Value}, evs e xs = some vs → (∀ x ∈ xs, Opk e a x) → xs.map a.eval = vs
  | [], vs, h, _ => by simp [evs] at h; simp [h]
  | x :: r, vs, h, ho => by
    simp only [evs] at h
    cases e1 : ev e x with
    | none => rw [e1] at h; cases h
    | some v =>
      cases e2 : evs e r with
      | none => rw [e1, e2] at h; cases h
      | some ws =>
        rw [e1, e2] at h
        simp at h
        subst h
        simp only [List.map_cons]
        rw [ho x (by simp) v e1, evs_map e2 (fun y hy => ho y (by simp [hy]))]

theorem mem_props {bx : List Box} {own : List HP} {n : Nat} {b : Box} (h : getB bx n = some b) : b.hp ∈ props bx own := by
  refine List.mem_append_left _ (List.mem_map.2 ⟨b, ?_, rfl⟩)
  induction bx with
  | nil => simp [getB] at h
  | cons c r ih =>
    simp only [getB] at h
    cases e : (c.nm == n) with
    | true => rw [e] at h; simp at h; subst h; simp
    | false => rw [e] at h; simp at h; exact List.mem_cons_of_mem _ (ih h)

theorem asIntOf_run (P : Program) (k : IntKind) (j : Int) (w : World) : (asIntOf (.int k j)).run P w = .ok (k, j) w := rfl

theorem run_part {P : Program} {T : TypeId} {agg : Bool} {k : Nat} (ha : aggB P T = some agg) (hk : szB P T = some k) (h1 : agg = false → k = 1) {cs : List Value} {off : Nat} (hl : off + k ≤ cs.length) (w : World) :
    (part T cs.toArray off).run P w = .ok (mkv agg ((cs.drop off).take k)) w := by
  cases agg with
  | true =>
    have : (cs.toArray.extract off (off + k)) = (List.take k (List.drop off cs)).toArray := by
      apply Array.ext'
      rw [Array.toList_extract]
      simp [List.extract]
    simp [part, run_isAgg' ha, run_sizeOf' hk, mkv, this]
  | false =>
    obtain rfl := h1 rfl
    have hlt : off < cs.length := by omega
    have : cs.drop off = cs[off] :: cs.drop (off + 1) := List.drop_eq_getElem_cons hlt
    have e1 : (cs.drop off).take 1 = [cs[off]] := by rw [this]; rfl
    rw [e1]
    simp [part, run_isAgg' ha, List.getElem?_eq_getElem hlt, mkv]
theorem kok_length : ∀ {ks : List CK} {a b : List Value}, kok ks a b → a.length = ks.length ∧ b.length = ks.length
  | [], [], [], _ => ⟨rfl, rfl⟩
  | k :: ks, x :: a, y :: b, h => by obtain ⟨h1, h2⟩ := kok_length h.2; simp [h1, h2]
  | [], x :: a, b, h => by cases b <;> exact h.elim
  | [], [], y :: b, h => h.elim
  | k :: ks, [], b, h => by cases b <;> exact h.elim
  | k :: ks, x :: a, [], h => h.elim
theorem ceq_append : ∀ {a c b d : List Value}, a.length = c.length → ceq (a ++ b) (c ++ d) = (ceq a c && ceq b d)
  | [], [], b, d, _ => by simp [ceq]
  | x :: a, y :: c, b, d, h => by simp [ceq, ceq_append (a := a) (c := c) (by simpa using h), Bool.and_assoc]
theorem kok_append : ∀ {k1 k2 : List CK} {xs ys : List Value}, kok (k1 ++ k2) xs ys → kok k1 (xs.take k1.length) (ys.take k1.length) ∧ kok k2 (xs.drop k1.length) (ys.drop k1.length)
  | [], k2, xs, ys, h => ⟨trivial, h⟩
  | k :: k1, k2, [], ys, h => by cases ys <;> exact h.elim
  | k :: k1, k2, x :: xs, [], h => h.elim
  | k :: k1, k2, x :: xs, y :: ys, h => by
    obtain ⟨h1, h2⟩ := kok_append h.2
    exact ⟨⟨h.1, h1⟩, h2⟩
theorem flatStep_none (P : Program) (fl : TypeId → Option (List CK)) : ∀ fs : List Field, fs.foldl (flatStep P fl) none = none
  | [] => rfl
  | f :: fs => by simp only [List.foldl_cons]; exact flatStep_none P fl fs
/-- what a fold over the fields adds -/
theorem flatStep_some {P : Program} {fl : TypeId → Option (List CK)} {l : List CK} {fd : Field} {fs : List Field} {r : List CK} (h : (fd :: fs).foldl (flatStep P fl) (some l) = some r) :
    fd.offset = l.length ∧ fd.name ≠ "_" ∧ ∃ ks b, fl fd.type = some ks ∧ szB P fd.type = some ks.length ∧ aggB P fd.type = some b ∧ (b = false → ks.length = 1) ∧ fs.foldl (flatStep P fl) (some (l ++ ks)) = some r := by
  simp only [List.foldl_cons] at h
  by_cases h1 : fd.offset = l.length ∧ fd.name ≠ "_"
  · cases e1 : fl fd.type with
    | none => simp [flatStep, h1, e1, flatStep_none] at h
    | some ks =>
      cases e2 : szB P fd.type with
      | none => simp [flatStep, h1, e1, e2, flatStep_none] at h
      | some k' =>
        cases e3 : aggB P fd.type with
        | none => simp [flatStep, h1, e1, e2, e3, flatStep_none] at h
        | some b =>
          by_cases h2 : ks.length = k' ∧ (b = false → k' = 1)
          · have hst : flatStep P fl (some l) fd = some (l ++ ks) := by
              simp only [flatStep, e1, e2, e3]
              rw [if_pos h1, if_pos h2]
            obtain ⟨rfl, h2'⟩ := h2
            rw [hst] at h
            exact ⟨h1.1, h1.2, ks, b, rfl, rfl, rfl, h2', h⟩
          · have hst : flatStep P fl (some l) fd = none := by
              simp only [flatStep, e1, e2, e3]
              rw [if_pos h1, if_neg h2]
            rw [hst, flatStep_none] at h; cases h
  · have hst : flatStep P fl (some l) fd = none := by
      simp only [flatStep]
      rw [if_neg h1]
    rw [hst, flatStep_none] at h; cases h

theorem flat_prefix {P : Program} {fl : TypeId → Option (List CK)} : ∀ {fs : List Field} {l r : List CK}, fs.foldl (flatStep P fl) (some l) = some r → ∃ t, r = l ++ t
  | [], l, r, h => by simp at h; exact ⟨[], by simp [h]⟩
  | f :: fs, l, r, h => by
    obtain ⟨_, _, ks, b, _, _, _, _, h'⟩ := flatStep_some h
    obtain ⟨t, rfl⟩ := flat_prefix h'
    exact ⟨ks ++ t, by simp⟩

theorem flat_eq {P : Program} : ∀ (d : Nat) {T : TypeId} {ks : List CK}, flat P d T = some ks → ∀ {D : Nat}, d ≤ D → ∀ {agg : Bool}, aggB P T = some agg → ∀ {xs ys : List Value} (w : World), kok ks xs ys →
    (Op.equalIn D T (mkv agg xs) (mkv agg ys)).run P w = .ok (ceq xs ys) w := by
  intro d
  induction d with
  | zero => intro T ks h; simp [flat] at h
  | succ d ih =>
    intro T ks h D hD agg hag xs ys w hc
    obtain ⟨D, rfl⟩ : ∃ m, D = m + 1 := ⟨D - 1, by omega⟩
    simp only [flat] at h
    cases hu : P.underlying T with
    | none => rw [hu] at h; cases h
    | some desc =>
      rw [hu] at h
      have hag' : agg = (match desc with | .struct _ | .array _ _ => true | _ => false) := by
        unfold aggB at hag; rw [hu] at hag
        cases desc <;> simp at hag <;> simp [hag]
      cases desc with
      | int kk =>
        simp at h hag'; subst h; subst hag'
        obtain ⟨l1, l2⟩ := kok_length hc
        match xs, ys, l1, l2, hc with
        | [x], [y], _, _, hc =>
          cases x <;> cases y <;> first
            | (obtain ⟨h1, _⟩ := hc; simp only [k1ok] at h1; done)
            | skip
          all_goals first
            | (obtain ⟨h1, _⟩ := hc; simp only [k1ok] at h1; subst h1; simp [mkv, run_equalIn_int w D T _ kk _ _ hu, ceq, c1eq]; done)
            | (exact hc.1.elim)
      | bool =>
        simp at h hag'; subst h; subst hag'
        obtain ⟨l1, l2⟩ := kok_length hc
        match xs, ys, l1, l2, hc with
        | [x], [y], _, _, hc =>
          cases x <;> cases y <;> first
            | (exact hc.1.elim)
            | (simp [mkv, run_equalIn_bool' w D T _ _ hu, ceq, c1eq]; done)
      | string =>
        simp at h hag'; subst h; subst hag'
        obtain ⟨l1, l2⟩ := kok_length hc
        match xs, ys, l1, l2, hc with
        | [x], [y], _, _, hc =>
          cases x <;> cases y <;> first
            | (exact hc.1.elim)
            | (simp [mkv, run_equalIn_string w D T _ _ hu, ceq, c1eq]; done)
      | struct fs =>
        simp at hag'; subst hag'
        simp only at h
        by_cases hst : P.stoodInHeld T = true
        · rw [if_pos hst] at h; cases h
        · rw [if_neg hst] at h
          have hst : P.stoodInHeld T = false := by simpa using hst
          have hfo : P.fieldsOf T = fs := by simp [Program.fieldsOf, hu]
          have hrun := run_equalIn_struct w D T xs.toArray ys.toArray (by rw [hfo]; exact hu) hst
          show (Op.equalIn (D + 1) T (.agg xs.toArray) (.agg ys.toArray)).run P w = _
          rw [hrun, hfo]
          -- field after field
          have key : ∀ (fl : List Field) (l : List CK), fl.foldl (flatStep P (flat P d)) (some l) = some ks → kok (ks.drop l.length) (xs.drop l.length) (ys.drop l.length) →
              (Op.eqFields D xs.toArray ys.toArray fl).run P w = .ok (ceq (xs.drop l.length) (ys.drop l.length)) w := by
            intro fl
            induction fl with
            | nil =>
              intro l hl hk
              simp at hl; subst hl
              simp at hk
              have h1 := kok_length hk
              have e1 := List.eq_nil_of_length_eq_zero h1.1
              have e2 := List.eq_nil_of_length_eq_zero h1.2
              rw [e1, e2]
              rfl
            | cons f fl ihf =>
              intro l hl hk
              obtain ⟨ho, hnm, k1, b, hf, hs, hb, hb1, hrest⟩ := flatStep_some hl
              obtain ⟨t, ht⟩ := flat_prefix hrest
              have hdrop : ks.drop l.length = k1 ++ t := by rw [ht, List.append_assoc]; simp
              rw [hdrop] at hk
              obtain ⟨hk1, hk2⟩ := kok_append hk
              obtain ⟨hl1, hl2⟩ := kok_length hk1
              have hlen := kok_length hc
              have hkl : ks.length = l.length + k1.length + t.length := by rw [ht]; simp; omega
              have hx := run_part (P := P) hb hs hb1 (cs := xs) (off := f.offset) (by omega) w
              have hy := run_part (P := P) hb hs hb1 (cs := ys) (off := f.offset) (by omega) w
              rw [ho] at hx hy
              have heq := ih hf (D := D) (by omega) hb w hk1
              simp only [Op.eqFields]
              rw [if_pos hnm]
              simp only [Sem.run_bind, ho, hx, hy, heq, Result.andThen_ok]
              have hsplit : ceq (xs.drop l.length) (ys.drop l.length) = (ceq ((xs.drop l.length).take k1.length) ((ys.drop l.length).take k1.length) && ceq ((xs.drop l.length).drop k1.length) ((ys.drop l.length).drop k1.length)) := by
                rw [← ceq_append (by simp; omega), List.take_append_drop, List.take_append_drop]
              rw [hsplit]
              cases ceq ((xs.drop l.length).take k1.length) ((ys.drop l.length).take k1.length) with
              | false => rfl
              | true =>
                simp only [Bool.not_true, Bool.false_eq_true, if_false, Bool.true_and, List.drop_drop]
                have e := ihf (l ++ k1) hrest (by
                  rw [List.length_append, ht, List.append_assoc]
                  have : (l ++ (k1 ++ t)).drop (l.length + k1.length) = t := by rw [← List.drop_drop]; simp
                  rw [this]
                  simpa [List.drop_drop] using hk2)
                rw [List.length_append] at e
                exact e
          have := key fs.toList [] h (by simpa using hc)
          simpa using this
      | _ => simp at h

theorem equal_bool {P : Program} {T : TypeId} (hu : P.underlying T = some .bool) (a b : Bool) (w : World) : (Op.equal T (.bool a) (.bool b)).run P w = .ok (a == b) w := by
  show (Op.equalIn (9999 + 1) T (.bool a) (.bool b)).run P w = _
  unfold Op.equalIn
  simp only [Sem.run_bind, run_underlying' hu, Result.andThen_ok]
  rfl

theorem foldl_setAt (off : Nat) : ∀ (vs : List Value) (i : Nat) (cells : Array Value), (((vs.zipIdx i).foldl (fun cs (p : Value × Nat) => cs.setIfInBounds (off + p.2) p.1) cells)).toList = setAt cells.toList (off + i) vs
  | [], i, cells => by simp [setAt_nil]
  | v :: vs, i, cells => by
    simp only [List.zipIdx_cons, List.foldl_cons]
    rw [foldl_setAt off vs (i + 1), setAt_cons]
    simp [Nat.add_assoc]
theorem fill_cons {place : Nat → Option (Nat × Nat)} {cells : Array Value} {i : Nat} {v : Value} {rest : List (Nat × Value)} {off size : Nat} (hp : place i = some (off, size)) (h1 : (vcells v).length = size) (h2 : off + size ≤ cells.size) :
    Instr.fill place cells ((i, v) :: rest) = Instr.fill place (setAt cells.toList off (vcells v)).toArray rest := by
  have hz : v.cells.size = size := by rw [← h1, ← vcells_eq, Array.length_toList]
  simp only [Instr.fill, hp]
  have : (decide (v.cells.size ≠ size) || decide (off + v.cells.size > cells.size)) = false := by
    simp [hz]; omega
  rw [this]
  simp only [Bool.false_eq_true, if_false]
  congr 1
  apply Array.ext'
  have := foldl_setAt off (vcells v) 0 cells
  simp only [Nat.add_zero] at this
  rw [← this, ← vcells_eq, ← Array.foldl_toList, Array.toList_zipIdx]

theorem run_mapM_ok {P : Program} {w : World} {α β : Type} {f : α → Sem β} {g : α → β} : ∀ {l : List α}, (∀ x ∈ l, (f x).run P w = .ok (g x) w) → (l.mapM f).run P w = .ok (l.map g) w
  | [], _ => rfl
  | x :: l, h => by
    simp only [List.mapM_cons, Sem.run_bind, h x (by simp), Result.andThen_ok, run_mapM_ok (l := l) (fun y hy => h y (by simp [hy]))]
    rfl

theorem mks_fill {P : Program} {fs : Array Field} {len : Nat} {e : Env} {a : Act} {place : Nat → Option (Nat × Nat)} (hpl : ∀ i fd n, fs[i]? = some fd → szB P fd.type = some n → place i = some (fd.offset, n)) :
    ∀ {ps : List (Nat × Operand)} {parts : List (Nat × Nat × Operand)} {cs cs' : List Value} {s : Prop}, partsOk P fs len ps parts = true → mksV e cs parts = some (s, cs') → s → cs.length = len → (∀ x ∈ parts.map (·.2.2), Opk e a x) →
    Instr.fill place cs.toArray (ps.map fun (i, x) => (i, a.eval x)) = some cs'.toArray
  | [], [], cs, cs', s, _, hv, _, _, _ => by simp [mksV] at hv; simp [Instr.fill, hv.2]
  | [], _ :: _, cs, cs', s, h, _, _, _, _ => by simp [partsOk] at h
  | _ :: _, [], cs, cs', s, h, _, _, _, _ => by simp [partsOk] at h
  | (i, y) :: ps, (off, n, x) :: parts, cs, cs', s, h, hv, hs, hl, ho => by
    simp only [partsOk, Bool.and_eq_true] at h
    obtain ⟨⟨hy, hf⟩, h⟩ := h
    obtain rfl := osame_eq hy
    split at hf
    rotate_left
    · cases hf
    rename_i fd hfd
    simp only [Bool.and_eq_true, decide_eq_true_eq] at hf
    obtain ⟨⟨rfl, hn⟩, hlen⟩ := hf
    simp only [mksV] at hv
    split at hv
    rotate_left
    · cases hv
    rename_i v hev
    split at hv
    rotate_left
    · cases hv
    rename_i s' cs1 hm
    simp at hv
    obtain ⟨hs', rfl⟩ := hv
    rw [← hs'] at hs
    have hx : a.eval y = v := ho y (by simp) _ hev
    simp only [List.map_cons, hx]
    rw [fill_cons (hpl i fd n hfd hn) hs.1 (by simp; omega)]
    exact mks_fill hpl h hm hs.2 (by rw [setAt_length]; exact hl) (fun z hz => ho z (by simp at hz ⊢; exact .inr hz))

theorem bnd_run {P : Program} {e : Env} {a : Act} {d : Nat} {lo : Option Operand} {l : Int} {y : Nat} {code : BoundsCode} {w : World} (hb : bnd e d lo = some l) (ho : ∀ x ∈ lo.toList, Opk e a x) (h0 : 0 ≤ l) (h1 : l ≤ y) :
    (match lo.map a.eval with | some v => Instr.sliceBound v y code | none => pure d).run P w = .ok l.toNat w := by
  cases lo with
  | none => simp [bnd] at hb; subst hb; simp
  | some x =>
    simp only [bnd] at hb
    split at hb
    rotate_left
    · cases hb
    rename_i k i hx
    simp at hb; subst hb
    have := ho x (by simp) _ hx
    simp [this, Instr.sliceBound, asIntOf, h0, h1]

set_option maxHeartbeats 4000000 in
theorem PI.sound {P : Program} {o : Oper} {p : PI} {e : Env} {bx : List Box} {own : List HP} {u : Mem} {cx : Ctx} {a : Act} {w : World} {s : Prop} {v : Value}
    (hok : p.ok P o.op = true) (hv : p.val e bx = some (s, v)) (hs : s) (hr : ∀ x ∈ p.reads e, Opk e a x) (i : Inv cx (props bx own) u w) :
    (execOp a.eval o).run P w = .ok (.value v) w := by
  cases p with
  | mv x =>
    simp only [PI.val] at hv
    cases e1 : ev e x with
    | none => rw [e1] at hv; cases hv
    | some v1 =>
      rw [e1] at hv; simp at hv
      have := hr x (by simp [PI.reads]) v1 e1
      simp only [PI.ok] at hok
      unfold execOp
      split at hok <;> first
        | (rename_i y hy; obtain rfl := osame_eq hok; simp [hy, this, hv.2]; done)
        | cases hok
  | pick c x y =>
    simp only [PI.val] at hv
    split at hv
    rotate_left
    · cases hv
    rename_i b v1 v2 ec ex ey
    simp at hv
    simp only [PI.ok] at hok
    split at hok
    rotate_left
    · cases hok
    rename_i c' x' y' hop
    simp at hok
    obtain rfl := osame_eq hok.1.1; obtain rfl := osame_eq hok.1.2; obtain rfl := osame_eq hok.2
    have hc : a.eval c' = .bool b := hr c' (by simp only [PI.reads]; split <;> simp) _ ec
    unfold execOp
    simp only [hop]
    rw [hc]
    have hp : pickV b v1 v2 = if b then v1 else v2 := by
      cases b <;> cases v1 <;> cases v2 <;> rfl
    rw [← hv.2, hp]
    cases b with
    | true => have hx : a.eval x' = v1 := hr x' (by simp [PI.reads, ec]) _ ex; simp [asBool, hx]
    | false => have hy : a.eval y' = v2 := hr y' (by simp [PI.reads, ec]) _ ey; simp [asBool, hy]
  | picl c x y =>
    simp only [PI.ok] at hok
    split at hok
    rotate_left
    · cases hok
    rename_i c' x' y' hop
    simp at hok
    obtain rfl := osame_eq hok.1.1; obtain rfl := osame_eq hok.1.2; obtain rfl := osame_eq hok.2
    simp only [PI.val] at hv
    split at hv
    · rename_i ec
      split at hv
      rotate_left
      · cases hv
      rename_i v1 ex
      simp at hv
      have hc : a.eval c' = .bool true := hr c' (by simp [PI.reads, ec]) _ ec
      have hx : a.eval x' = v1 := hr x' (by simp [PI.reads, ec]) _ ex
      unfold execOp; simp only [hop]; simp [hc, asBool, hx, hv.2]
    · rename_i ec
      split at hv
      rotate_left
      · cases hv
      rename_i v1 ex
      simp at hv
      have hc : a.eval c' = .bool false := hr c' (by simp [PI.reads, ec]) _ ec
      have hx : a.eval y' = v1 := hr y' (by simp [PI.reads, ec]) _ ex
      unfold execOp; simp only [hop]; simp [hc, asBool, hx, hv.2]
    · cases hv
  | ib bop k x y =>
    simp only [PI.val] at hv
    split at hv
    rotate_left
    · cases hv
    rename_i j1 a1 j2 b1 ex ey
    simp at hv
    obtain ⟨hs', rfl⟩ := hv
    rw [← hs'] at hs
    obtain ⟨rfl, rfl, hsd⟩ := hs
    simp only [PI.ok] at hok
    split at hok
    rotate_left
    · cases hok
    rename_i bop' T x' y' T' hop
    simp at hok
    obtain ⟨⟨⟨rfl, hb⟩, h1⟩, h2⟩ := hok
    obtain rfl := osame_eq h1; obtain rfl := osame_eq h2
    have hx := hr x' (by simp [PI.reads]) _ ex
    have hy := hr y' (by simp [PI.reads]) _ ey
    unfold execOp; simp only [hop]
    cases bop' <;> simp [ibOk] at hb <;> simp [hx, hy, eqGuard, binOp, Op.intArith, Op.intCmp, Op.intDiv, ibv, ibs] at hsd ⊢ <;> simp [hsd, Op.intDiv]
  | sb bop x y =>
    simp only [PI.val] at hv
    split at hv
    rotate_left
    · cases hv
    rename_i a1 b1 ex ey
    simp at hv
    obtain ⟨hs', rfl⟩ := hv
    rw [← hs'] at hs
    simp only [PI.ok] at hok
    split at hok
    rotate_left
    · cases hok
    rename_i bop' T x' y' T' hop
    simp at hok
    obtain ⟨⟨⟨rfl, hb⟩, h1⟩, h2⟩ := hok
    obtain rfl := osame_eq h1; obtain rfl := osame_eq h2
    have hx := hr x' (by simp [PI.reads]) _ ex
    have hy := hr y' (by simp [PI.reads]) _ ey
    unfold execOp; simp only [hop]
    cases bop' <;> simp [sbOk] at hb
    · simp only [sbs] at hs
      have : ¬ (IntKind.i64.max < ((a1.size : Int) + (b1.size : Int))) := by
        simp only [IntKind.max, IntKind.signed, IntKind.bits, if_true]; omega
      simp [hx, hy, eqGuard, binOp, Op.stringOp, sbv, this]
      omega
    · simp [hx, hy, eqGuard, binOp, Op.stringOp, sbv]
    · simp [hx, hy, eqGuard, binOp, Op.stringOp, sbv]
  | bb ne x y =>
    simp only [PI.val] at hv
    split at hv
    rotate_left
    · cases hv
    rename_i a1 b1 ex ey
    simp at hv
    obtain ⟨-, rfl⟩ := hv
    simp only [PI.ok] at hok
    split at hok
    rotate_left
    · cases hok
    rename_i bop' T x' y' T' hop
    simp only [Bool.and_eq_true, decide_eq_true_eq] at hok
    obtain ⟨⟨⟨hb, ht⟩, h1⟩, h2⟩ := hok
    have hu : P.underlying T = some .bool := by
      split at ht
      · assumption
      · cases ht
    obtain rfl := osame_eq h1; obtain rfl := osame_eq h2
    have hx := hr x' (by simp [PI.reads]) _ ex
    have hy := hr y' (by simp [PI.reads]) _ ey
    unfold execOp; simp only [hop]
    subst hb
    have he := equal_bool hu a1 b1 w
    cases ne
    · show Sem.run P (do let r ← (do eqGuard .eql T x' y' (a.eval x') (a.eval y'); binOp .eql T (a.eval x') (a.eval y')); pure (Next.value r)) w = _
      rw [hx, hy]
      show Sem.run P (do let r ← (do let q ← Op.equal T (.bool a1) (.bool b1); pure (.bool q)); pure (Next.value r)) w = _
      simp [he]
    · show Sem.run P (do let r ← (do eqGuard .neq T x' y' (a.eval x') (a.eval y'); binOp .neq T (a.eval x') (a.eval y')); pure (Next.value r)) w = _
      rw [hx, hy]
      show Sem.run P (do let r ← (do let q ← Op.equal T (.bool a1) (.bool b1); pure (.bool !q)); pure (Next.value r)) w = _
      simp [he]
  | not x =>
    simp only [PI.val] at hv
    split at hv
    rotate_left
    · cases hv
    rename_i a1 ex
    simp at hv
    obtain ⟨-, rfl⟩ := hv
    simp only [PI.ok] at hok
    split at hok
    rotate_left
    · cases hok
    rename_i T y hop
    obtain rfl := osame_eq hok
    have hx := hr y (by simp [PI.reads]) _ ex
    unfold execOp; simp only [hop]
    simp [hx, Op.unary]
  | fld x off n agg =>
    simp only [PI.val] at hv
    split at hv
    rotate_left
    · cases hv
    rename_i cs ex
    simp at hv
    obtain ⟨hs', rfl⟩ := hv
    rw [← hs'] at hs
    obtain ⟨hl, h1⟩ := hs
    simp only [PI.ok] at hok
    split at hok
    rotate_left
    · cases hok
    rename_i T y f hop
    simp only [Bool.and_eq_true] at hok
    obtain ⟨hy, hok⟩ := hok
    obtain rfl := osame_eq hy
    split at hok
    rotate_left
    · cases hok
    rename_i fs hu
    split at hok
    rotate_left
    · cases hok
    rename_i fd hf
    simp only [Bool.and_eq_true, decide_eq_true_eq, Bool.or_eq_true] at hok
    obtain ⟨⟨⟨rfl, hag⟩, hsz⟩, hn1⟩ := hok
    have hx := hr y (by simp [PI.reads]) _ ex
    unfold execOp; simp only [hop]
    cases agg with
    | true =>
      have : (cs.extract fd.offset (fd.offset + n)) = (List.take n (List.drop fd.offset cs.toList)).toArray := by
        apply Array.ext'
        rw [Array.toList_extract]
        simp [List.extract]
      simp [hx, Instr.field, run_underlying' hu, hf, asAgg, part, run_isAgg' hag, run_sizeOf' hsz, mkv, this]
    | false =>
      obtain rfl : n = 1 := by rcases hn1 with h | h; cases h; exact h
      have hlt : fd.offset < cs.size := by omega
      have : (List.drop fd.offset cs.toList) = cs.toList[fd.offset]'(by simpa using hlt) :: List.drop (fd.offset + 1) cs.toList := List.drop_eq_getElem_cons (by simpa using hlt)
      rw [this]
      simp [hx, Instr.field, run_underlying' hu, hf, asAgg, part, run_isAgg' hag, mkv, Array.getElem?_eq_getElem hlt]
  | len x =>
    simp only [PI.val] at hv
    split at hv
    rotate_left
    · cases hv
    rename_i ad n cp ex
    simp at hv
    obtain ⟨-, rfl⟩ := hv
    simp only [PI.ok] at hok
    split at hok
    rotate_left
    · cases hok
    rename_i args ats hop
    simp only [Bool.and_eq_true] at hok
    obtain ⟨h1, h2⟩ := hok
    split at h1
    rotate_left
    · cases h1
    rename_i y hy
    obtain rfl := osame_eq h1
    split at h2
    rotate_left
    · cases h2
    rename_i T hT
    have hu : ∃ el, P.underlying T = some (.slice el) := by
      split at h2
      · exact ⟨_, by assumption⟩
      · cases h2
    obtain ⟨el, hu⟩ := hu
    have hargs : args = #[y] := by
      unfold oneArg at hy
      split at hy
      rotate_left
      · cases hy
      rename_i z hz
      simp at hy; subst hy
      apply Array.ext'; simpa using hz
    subst hargs
    have hx := hr y (by simp [PI.reads]) _ ex
    unfold execOp; simp only [hop]
    simp [resolve, invoke, builtin, Builtin.len_, hT, run_underlying' hu, hx, goInt]
  | slen x =>
    simp only [PI.val] at hv
    split at hv
    rotate_left
    · cases hv
    rename_i sx ex
    simp at hv
    obtain ⟨-, rfl⟩ := hv
    simp only [PI.ok] at hok
    split at hok
    rotate_left
    · cases hok
    rename_i args ats hop
    simp only [Bool.and_eq_true] at hok
    obtain ⟨h1, h2⟩ := hok
    split at h1
    rotate_left
    · cases h1
    rename_i y hy
    obtain rfl := osame_eq h1
    split at h2
    rotate_left
    · cases h2
    rename_i T hT
    have hu : P.underlying T = some .string := by
      split at h2
      · assumption
      · cases h2
    have hargs : args = #[y] := by
      unfold oneArg at hy
      split at hy
      rotate_left
      · cases hy
      rename_i z hz
      simp at hy; subst hy
      apply Array.ext'; simpa using hz
    subst hargs
    have hx := hr y (by simp [PI.reads]) _ ex
    unfold execOp; simp only [hop]
    simp [resolve, invoke, builtin, Builtin.len_, hT, run_underlying' hu, hx, goInt]
  | mkf f fs0 caps =>
    simp only [PI.val] at hv
    split at hv
    rotate_left
    · cases hv
    rename_i fs vs ef ec
    simp at hv
    obtain ⟨-, rfl⟩ := hv
    simp only [PI.ok] at hok
    split at hok
    rotate_left
    · cases hok
    rename_i g first captured hop
    simp at hok
    obtain ⟨⟨rfl, hf⟩, hc⟩ := hok
    obtain rfl := olsame_eq hf
    obtain rfl := olsame_eq hc
    have h1 := evs_map ec (fun x hx => hr x (by simp only [PI.reads]; exact List.mem_append_right _ hx))
    have h2 := evs_map ef (fun x hx => hr x (by simp only [PI.reads]; exact List.mem_append_left _ hx))
    have hcap : captured.map a.eval = vs.toArray := by apply Array.ext'; simpa using h1
    have hfst : first.map a.eval = fs.toArray := by apply Array.ext'; simpa using h2
    unfold execOp; simp only [hop]
    simp [Instr.makeFunc, hfst, hcap]
  | ext x j =>
    simp only [PI.val] at hv
    split at hv
    rotate_left
    · cases hv
    rename_i vs ex
    split at hv
    rotate_left
    · cases hv
    rename_i v1 hj
    simp at hv
    obtain ⟨-, rfl⟩ := hv
    simp only [PI.ok] at hok
    split at hok
    rotate_left
    · cases hok
    rename_i y j' hop
    simp at hok
    obtain ⟨h1, rfl⟩ := hok
    obtain rfl := osame_eq h1
    have hx := hr y (by simp [PI.reads]) _ ex
    unfold execOp; simp only [hop]
    simp at hj
    simp [hx, Instr.extract, hj]
  | fad x off =>
    simp only [PI.val] at hv
    split at hv
    rotate_left
    · simp only [Option.some.injEq, Prod.mk.injEq] at hv; exact absurd (hv.1 ▸ hs) id
    · cases hv
    rename_i b o' sp ex
    simp at hv
    obtain ⟨hs', rfl⟩ := hv
    rw [← hs'] at hs
    subst hs
    simp only [PI.ok] at hok
    split at hok
    rotate_left
    · cases hok
    rename_i T y f hop
    simp only [Bool.and_eq_true] at hok
    obtain ⟨hy, hok⟩ := hok
    obtain rfl := osame_eq hy
    split at hok
    rotate_left
    · cases hok
    rename_i fs hu
    split at hok
    rotate_left
    · cases hok
    rename_i fd hf
    simp only [Bool.and_eq_true, decide_eq_true_eq] at hok
    obtain ⟨rfl, hsz⟩ := hok
    split at hsz
    rotate_left
    · cases hsz
    rename_i m hsz'
    have hx := hr y (by simp [PI.reads]) _ ex
    unfold execOp; simp only [hop]
    simp [hx, Instr.fieldAt, run_underlying' hu, hf, Instr.sureAddr, fieldPlace, run_sizeOf' hsz', Addr.add_plain]
  | idx x j k =>
    simp only [PI.val] at hv
    split at hv
    rotate_left
    · simp only [Option.some.injEq, Prod.mk.injEq] at hv; exact absurd (hv.1 ▸ hs) id
    · cases hv
    rename_i b o' sp n cp kk jj ex ej
    simp at hv
    obtain ⟨hs', rfl⟩ := hv
    rw [← hs'] at hs
    obtain ⟨rfl, h0, h1⟩ := hs
    simp only [PI.ok] at hok
    split at hok
    rotate_left
    · cases hok
    rename_i T y z hop
    simp only [Bool.and_eq_true] at hok
    obtain ⟨⟨hy, hz⟩, hok⟩ := hok
    obtain rfl := osame_eq hy; obtain rfl := osame_eq hz
    split at hok
    rotate_left
    · cases hok
    rename_i el hu
    have hsz := of_decide_eq_true hok
    have hx := hr y (by simp [PI.reads]) _ ex
    have hj := hr z (by simp [PI.reads]) _ ej
    unfold execOp; simp only [hop]
    simp [hx, hj, Instr.indexAt, asIntOf, run_underlying' hu, h0, h1, run_sizeOf' hsz, Addr.add_plain]
  | bld b off n agg x =>
    simp only [PI.val] at hv
    split at hv
    rotate_left
    · cases hv
    rename_i bb v1 eb ex
    simp at hv
    obtain ⟨hs', rfl⟩ := hv
    rw [← hs'] at hs
    obtain ⟨rfl, hl, h1⟩ := hs
    simp only [PI.ok] at hok
    split at hok
    rotate_left
    · cases hok
    rename_i T y hop
    simp only [Bool.and_eq_true, decide_eq_true_eq, Bool.or_eq_true] at hok
    obtain ⟨⟨⟨hy, hag⟩, hsz⟩, hn1⟩ := hok
    obtain rfl := osame_eq hy
    have hx := hr y (by simp [PI.reads]) _ ex
    have hb := i.at_ (mem_props (own := own) eb)
    unfold execOp; simp only [hop]
    have hone : agg = false → n = 1 := fun h => by
      rcases hn1 with q | q
      · rw [h] at q; cases q
      · exact q
    have hload := run_loadVar' (P := P) hag hsz (w := w) (b := bb.blk) (o := off) (cells := (bb.cells.drop off).take n) (by simp; omega) h1 hone (fun j v hj => by
      rw [cell_of_block hb]
      rw [List.getElem?_take] at hj
      split at hj
      · rw [List.getElem?_drop] at hj; simpa using hj
      · cases hj)
    simp [hx, Instr.loadAt, Instr.sureAddr, hload]
  | nck x =>
    simp only [PI.val] at hv
    split at hv
    rotate_left
    · cases hv
    rename_i ad ex
    simp at hv
    obtain ⟨-, rfl⟩ := hv
    simp only [PI.ok] at hok
    split at hok
    rotate_left
    · cases hok
    rename_i y hop
    obtain rfl := osame_eq hok
    have hx := hr y (by simp [PI.reads]) _ ex
    unfold execOp; simp only [hop]
    simp [hx]
  | mki T x =>
    simp only [PI.val] at hv
    split at hv
    rotate_left
    · cases hv
    rename_i v1 ex
    simp at hv
    obtain ⟨-, rfl⟩ := hv
    simp only [PI.ok] at hok
    split at hok
    rotate_left
    · cases hok
    rename_i T' y hop
    simp only [Bool.and_eq_true, decide_eq_true_eq] at hok
    obtain ⟨⟨rfl, hy⟩, hok⟩ := hok
    obtain rfl := osame_eq hy
    have hx := hr y (by simp [PI.reads]) _ ex
    unfold execOp; simp only [hop]
    split at hok
    · cases hok
    · rename_i d hd hu
      have : ∀ ms, d ≠ .interface ms := fun ms hm => hd ms hm
      simp only [Instr.makeInterface, Sem.run_bind, run_underlying' hu, Result.andThen_ok]
      cases d <;> first | (exact absurd rfl (this _)) | simp [hx]
    · cases hok
  | cnv k x =>
    simp only [PI.val] at hv
    split at hv
    rotate_left
    · cases hv
    rename_i k0 n0 ex
    simp at hv
    obtain ⟨-, rfl⟩ := hv
    simp only [PI.ok] at hok
    split at hok
    rotate_left
    · cases hok
    rename_i src dst y hop
    simp only [Bool.and_eq_true] at hok
    obtain ⟨⟨hy, hsrc⟩, hdst⟩ := hok
    obtain rfl := osame_eq hy
    have hx := hr y (by simp [PI.reads]) _ ex
    split at hsrc
    rotate_left
    · cases hsrc
    rename_i d1 hd1
    split at hdst
    rotate_left
    · cases hdst
    rename_i k' hd2
    have := of_decide_eq_true hdst
    subst this
    unfold execOp; simp only [hop]
    simp [hx, convert, run_underlying' hd1, run_underlying' hd2, Conv.intToInt]
  | mks zs parts =>
    simp only [PI.val] at hv
    split at hv
    rotate_left
    · cases hv
    rename_i s' cs hm
    simp at hv
    obtain ⟨hs', rfl⟩ := hv
    rw [← hs'] at hs
    simp only [PI.ok] at hok
    split at hok
    rotate_left
    · cases hok
    rename_i T ps hop
    simp only [Bool.and_eq_true] at hok
    obtain ⟨hz, hok⟩ := hok
    split at hz
    rotate_left
    · cases hz
    rename_i inf hinf
    split at hz
    rotate_left
    · cases hz
    rename_i zv hzv
    have hz2 := vlsame_eq hz
    have hcells : zv.cells = zs.toArray := by apply Array.ext'; rw [vcells_eq]; simpa using hz2
    split at hok
    rotate_left
    · cases hok
    rename_i fs hu
    simp only [Bool.and_eq_true, List.all_eq_true] at hok
    obtain ⟨hall, hparts⟩ := hok
    have hmap : (fs.mapM fun f => (do pure (f.offset, ← sizeOf f.type) : Sem (Nat × Nat))).run P w = .ok (fs.map fun f => (f.offset, (szB P f.type).getD 0)) w := by
      rw [← Array.toArray_toList (xs := fs), List.mapM_toArray]
      simp only [Sem.run_map]
      rw [run_mapM_ok (g := fun f => (f.offset, (szB P f.type).getD 0)) (fun f hf => by
        have := hall f hf
        cases e1 : szB P f.type with
        | none => rw [e1] at this; cases this
        | some n => simp [run_sizeOf' e1])]
      simp only [Result.andThen_ok]
      congr 1
      apply Array.ext'
      simp
    have hfill := mks_fill (a := a) (place := fun i => (fs.map fun f => (f.offset, (szB P f.type).getD 0))[i]?) (fun i fd n h1 h2 => by simp [h1, h2]) hparts hm hs rfl (fun x hx => hr x (by simpa [PI.reads] using hx))
    unfold execOp; simp only [hop]
    simp only [Instr.build, zeroValue, typeInfo, Sem.run_bind, run_program, Result.andThen_ok, hinf, Sem.run_pure, hzv, run_underlying' hu, hmap]
    have hl : (ps.map fun (x : Nat × Operand) => (x.1, a.eval x.2)).toList = ps.toList.map fun (x : Nat × Operand) => (x.1, a.eval x.2) := by simp
    rw [hl, hcells]
    have hfill' : Instr.fill (fun i => (fs.map fun f => (f.offset, (szB P f.type).getD 0))[i]?) zs.toArray (ps.toList.map fun (x : Nat × Operand) => (x.1, a.eval x.2)) = some cs.toArray := hfill
    rw [hfill']
    rfl
  | sq ne ks x y =>
    simp only [PI.val] at hv
    split at hv
    rotate_left
    · cases hv
    rename_i xs ys ex ey
    simp at hv
    obtain ⟨hs', rfl⟩ := hv
    rw [← hs'] at hs
    simp only [PI.ok] at hok
    split at hok
    rotate_left
    · cases hok
    rename_i bop T x' y' T' hop
    simp only [Bool.and_eq_true, decide_eq_true_eq] at hok
    obtain ⟨⟨⟨⟨⟨hb, h1⟩, h2⟩, hfl⟩, hag⟩, hgd⟩ := hok
    obtain rfl := osame_eq h1; obtain rfl := osame_eq h2
    have hx := hr x' (by simp [PI.reads]) _ ex
    have hy := hr y' (by simp [PI.reads]) _ ey
    have hgd : P.eqGuardType P.depth T = false := by simpa using hgd
    have heq := flat_eq 8 hfl (D := 10000) (by omega) hag w hs
    have heq : (Op.equalIn 10000 T (.agg xs) (.agg ys)).run P w = .ok (ceq xs.toList ys.toList) w := by simpa [mkv] using heq
    unfold execOp; simp only [hop]
    subst hb
    cases ne with
    | false => simp only [Bool.false_eq_true, if_false, cond_false, hx, hy, Sem.run_bind, run_eqGuard_agg w .eql T x' y' xs ys hgd, Result.andThen_ok, run_eql_struct, heq]; rfl
    | true => simp only [if_true, cond_true, hx, hy, Sem.run_bind, run_eqGuard_agg w .neq T x' y' xs ys hgd, Result.andThen_ok, run_neq_struct, heq]; rfl
  | snil ne x =>
    simp only [PI.val] at hv
    split at hv
    rotate_left
    · cases hv
    rename_i ad n0 c0 ex
    simp at hv
    obtain ⟨-, rfl⟩ := hv
    simp only [PI.ok] at hok
    split at hok
    rotate_left
    · cases hok
    rename_i bop T x' y' T' hop
    simp only [Bool.and_eq_true, decide_eq_true_eq] at hok
    obtain ⟨⟨⟨hb, h1⟩, h2⟩, hu⟩ := hok
    obtain rfl := osame_eq h1; obtain rfl := osame_eq h2
    have hx := hr x' (by simp [PI.reads]) _ ex
    have hu : ∃ el, P.underlying T = some (.slice el) := by
      split at hu
      · exact ⟨_, by assumption⟩
      · cases hu
    obtain ⟨el, hu⟩ := hu
    have heq : (Op.equal T (.slice ad n0 c0) (.slice none 0 0)).run P w = .ok ad.isNone w := by
      show (Op.equalIn (9999 + 1) T _ _).run P w = _
      unfold Op.equalIn
      simp only [Sem.run_bind, run_underlying' hu, Result.andThen_ok]
      cases ad <;> rfl
    unfold execOp; simp only [hop]
    subst hb
    cases ne
    · show Sem.run P (do let r ← (do eqGuard .eql T x' (.const (.slice none 0 0)) (a.eval x') (.slice none 0 0); binOp .eql T (a.eval x') (.slice none 0 0)); pure (Next.value r)) w = _
      rw [hx]
      show Sem.run P (do let r ← (do let q ← Op.equal T (.slice ad n0 c0) (.slice none 0 0); pure (.bool q)); pure (Next.value r)) w = _
      simp [heq]
    · show Sem.run P (do let r ← (do eqGuard .neq T x' (.const (.slice none 0 0)) (a.eval x') (.slice none 0 0); binOp .neq T (a.eval x') (.slice none 0 0)); pure (Next.value r)) w = _
      rw [hx]
      show Sem.run P (do let r ← (do let q ← Op.equal T (.slice ad n0 c0) (.slice none 0 0); pure (.bool !q)); pure (Next.value r)) w = _
      simp [heq]
  | inl ne x =>
    simp only [PI.ok] at hok
    split at hok
    rotate_left
    · cases hok
    rename_i bop T x' y' T' hop
    simp only [Bool.and_eq_true, decide_eq_true_eq] at hok
    obtain ⟨⟨⟨hb, h1⟩, h2⟩, hu⟩ := hok
    obtain rfl := osame_eq h1; obtain rfl := osame_eq h2
    have hu : ∃ ms, P.underlying T = some (.interface ms) := by
      split at hu
      · exact ⟨_, by assumption⟩
      · cases hu
    obtain ⟨ms, hu⟩ := hu
    unfold execOp; simp only [hop]
    subst hb
    simp only [PI.val] at hv
    split at hv
    · rename_i ex
      have hx := hr x' (by simp [PI.reads]) _ ex
      simp at hv; obtain ⟨-, rfl⟩ := hv
      have heq : (Op.equal T .nilIface .nilIface).run P w = .ok true w := by
        show (Op.equalIn (9999 + 1) T _ _).run P w = _
        unfold Op.equalIn
        simp only [Sem.run_bind, run_underlying' hu, Result.andThen_ok]
        rfl
      cases ne
      · have hg : (eqGuard .eql T x' (.const .nilIface) .nilIface .nilIface).run P w = .ok () w := by simp [eqGuard]
        show Sem.run P (do let r ← (do eqGuard .eql T x' (.const .nilIface) (a.eval x') .nilIface; binOp .eql T (a.eval x') .nilIface); pure (Next.value r)) w = _
        rw [hx]
        show Sem.run P (do let r ← (do eqGuard .eql T x' (.const .nilIface) .nilIface .nilIface; let q ← Op.equal T .nilIface .nilIface; pure (.bool q)); pure (Next.value r)) w = _
        simp [heq, hg]
      · have hg : (eqGuard .neq T x' (.const .nilIface) .nilIface .nilIface).run P w = .ok () w := by simp [eqGuard]
        show Sem.run P (do let r ← (do eqGuard .neq T x' (.const .nilIface) (a.eval x') .nilIface; binOp .neq T (a.eval x') .nilIface); pure (Next.value r)) w = _
        rw [hx]
        show Sem.run P (do let r ← (do eqGuard .neq T x' (.const .nilIface) .nilIface .nilIface; let q ← Op.equal T .nilIface .nilIface; pure (.bool !q)); pure (Next.value r)) w = _
        simp [heq, hg]
    · rename_i tt vv ex
      have hx := hr x' (by simp [PI.reads]) _ ex
      simp at hv; obtain ⟨-, rfl⟩ := hv
      have heq : (Op.equal T (.iface tt vv) .nilIface).run P w = .ok false w := by
        show (Op.equalIn (9999 + 1) T _ _).run P w = _
        unfold Op.equalIn
        simp only [Sem.run_bind, run_underlying' hu, Result.andThen_ok]
        rfl
      cases ne
      · show Sem.run P (do let r ← (do eqGuard .eql T x' (.const .nilIface) (a.eval x') .nilIface; binOp .eql T (a.eval x') .nilIface); pure (Next.value r)) w = _
        rw [hx]
        show Sem.run P (do let r ← (do let q ← Op.equal T (.iface tt vv) .nilIface; pure (.bool q)); pure (Next.value r)) w = _
        simp [heq]
      · show Sem.run P (do let r ← (do eqGuard .neq T x' (.const .nilIface) (a.eval x') .nilIface; binOp .neq T (a.eval x') .nilIface); pure (Next.value r)) w = _
        rw [hx]
        show Sem.run P (do let r ← (do let q ← Op.equal T (.iface tt vv) .nilIface; pure (.bool !q)); pure (Next.value r)) w = _
        simp [heq]
    · cases hv
  | mnx mx k x y =>
    simp only [PI.val] at hv
    split at hv
    rotate_left
    · cases hv
    rename_i j a1 j2 b1 ex ey
    simp at hv
    obtain ⟨hs', rfl⟩ := hv
    rw [← hs'] at hs
    subst hs
    simp only [PI.ok] at hok
    split at hok
    rotate_left
    · cases hok
    rename_i bi args ats hop
    simp only [Bool.and_eq_true] at hok
    obtain ⟨hb, hxy⟩ := hok
    have hargs := olsame_eq hxy
    have hargs : args = #[x, y] := by apply Array.ext'; simpa using hargs
    subst hargs
    have hx := hr x (by simp [PI.reads]) _ ex
    have hy := hr y (by simp [PI.reads]) _ ey
    unfold execOp; simp only [hop]
    cases bi <;> simp at hb
    · subst hb
      simp [resolve, invoke, builtin, Builtin.max_, Builtin.max2, hx, hy]
    · subst hb
      simp [resolve, invoke, builtin, Builtin.min_, Builtin.min2, hx, hy]
  | ssl x lo hi =>
    simp only [PI.val] at hv
    split at hv
    rotate_left
    · cases hv
    rename_i sx ex
    split at hv
    rotate_left
    · cases hv
    rename_i l h hl hh
    simp at hv
    obtain ⟨hs', rfl⟩ := hv
    rw [← hs'] at hs
    obtain ⟨h0, h1, h2⟩ := hs
    simp only [PI.ok] at hok
    split at hok
    rotate_left
    · cases hok
    rename_i T y lo' hi' mx hop
    simp only [Bool.and_eq_true] at hok
    obtain ⟨⟨⟨⟨hy, hlo⟩, hhi⟩, hm⟩, hu⟩ := hok
    obtain rfl := osame_eq hy; obtain rfl := oosame_eq hlo; obtain rfl := oosame_eq hhi
    have hm : mx = none := by simpa using hm
    subst hm
    have hu : P.underlying T = some .string := by
      split at hu
      · assumption
      · cases hu
    have hx := hr y (by simp [PI.reads]) _ ex
    have b1 := bnd_run (P := P) (a := a) (y := sx.size) (code := .sliceAlen) (w := w) hh (fun z hz => hr z (by simp only [PI.reads]; exact List.mem_cons_of_mem _ (List.mem_append_right _ hz))) (by omega) h2
    have b2 := bnd_run (P := P) (a := a) (y := h.toNat) (code := .sliceB) (w := w) hl (fun z hz => hr z (by simp only [PI.reads]; exact List.mem_cons_of_mem _ (List.mem_append_left _ hz))) h0 (by omega)
    unfold execOp; simp only [hop]
    have hsb : (Instr.sliceBounds false sx.size sx.size (lo'.map a.eval) (hi'.map a.eval) none).run P w = .ok (l.toNat, h.toNat, sx.size) w := by
      unfold Instr.sliceBounds
      simp only [Sem.run_bind, Sem.run_pure, Result.andThen_ok, Bool.false_eq_true, if_false, Option.isSome_none]
      cases hi' <;> cases lo' <;> simp_all
    simp [Instr.sliceAt, Instr.slice, run_underlying' hu, hx, hsb]
  | slc x lo hi k =>
    simp only [PI.val] at hv
    split at hv
    rotate_left
    · cases hv
    rename_i ad n0 c0 ex
    split at hv
    rotate_left
    · cases hv
    rename_i l h hl hh
    simp at hv
    obtain ⟨hs', rfl⟩ := hv
    rw [← hs'] at hs
    obtain ⟨h0, h1, h2⟩ := hs
    simp only [PI.ok] at hok
    split at hok
    rotate_left
    · cases hok
    rename_i T y lo' hi' mx hop
    simp only [Bool.and_eq_true] at hok
    obtain ⟨⟨⟨⟨hy, hlo⟩, hhi⟩, hm⟩, hu⟩ := hok
    obtain rfl := osame_eq hy; obtain rfl := oosame_eq hlo; obtain rfl := oosame_eq hhi
    have hm : mx = none := by simpa using hm
    subst hm
    split at hu
    rotate_left
    · cases hu
    rename_i el hu'
    have hsz := of_decide_eq_true hu
    have hx := hr y (by simp [PI.reads]) _ ex
    have b1 := bnd_run (P := P) (a := a) (y := c0) (code := .sliceAcap) (w := w) hh (fun z hz => hr z (by simp only [PI.reads]; exact List.mem_cons_of_mem _ (List.mem_append_right _ hz))) (by omega) h2
    have b2 := bnd_run (P := P) (a := a) (y := h.toNat) (code := .sliceB) (w := w) hl (fun z hz => hr z (by simp only [PI.reads]; exact List.mem_cons_of_mem _ (List.mem_append_left _ hz))) h0 (by omega)
    unfold execOp; simp only [hop]
    have hsb : (Instr.sliceBounds true n0 c0 (lo'.map a.eval) (hi'.map a.eval) none).run P w = .ok (l.toNat, h.toNat, c0) w := by
      unfold Instr.sliceBounds
      simp only [Sem.run_bind, Sem.run_pure, Result.andThen_ok, if_true, Bool.false_eq_true, if_false, Option.isSome_none]
      cases hi' <;> cases lo' <;> simp_all
    simp [Instr.sliceAt, Instr.slice, run_underlying' hu', hx, hsb, run_sizeOf' hsz]
  | six x i =>
    simp only [PI.val] at hv
    split at hv
    rotate_left
    · cases hv
    rename_i sx kk j ex ej
    simp at hv
    obtain ⟨hs', rfl⟩ := hv
    rw [← hs'] at hs
    obtain ⟨h0, h1⟩ := hs
    simp only [PI.ok] at hok
    split at hok
    rotate_left
    · cases hok
    rename_i T y z hop
    simp only [Bool.and_eq_true] at hok
    obtain ⟨⟨hy, hz⟩, hu⟩ := hok
    obtain rfl := osame_eq hy; obtain rfl := osame_eq hz
    have hu : P.underlying T = some .string := by
      split at hu
      · assumption
      · cases hu
    have hx := hr y (by simp [PI.reads]) _ ex
    have hj := hr z (by simp [PI.reads]) _ ej
    have hlt : j.toNat < sx.size := by omega
    have hb : sx[j.toNat]? = some (sx.data.toList.getD j.toNat 0) := by
      have h2 : j.toNat < sx.data.toList.length := by rw [Array.length_toList]; exact hlt
      rw [getElem?_pos sx j.toNat hlt, List.getD_eq_getElem?_getD, List.getElem?_eq_getElem h2]
      rfl
    unfold execOp; simp only [hop]
    simp [hx, hj, Instr.index, asIntOf, run_underlying' hu, h0, hb]
  | neg k x =>
    simp only [PI.val] at hv
    split at hv
    rotate_left
    · cases hv
    rename_i j a1 ex
    simp at hv
    obtain ⟨hs', rfl⟩ := hv
    rw [← hs'] at hs
    subst hs
    simp only [PI.ok] at hok
    split at hok
    rotate_left
    · cases hok
    rename_i T y hop
    obtain rfl := osame_eq hok
    have hx := hr y (by simp [PI.reads]) _ ex
    unfold execOp; simp only [hop]
    simp [hx, Op.unary, Op.intArith]
end Go.Proofs.YtenmmfkgopffgaaGreatDoor
