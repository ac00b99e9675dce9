/- The items of a region: pure ones (a value out of the slots and the boxes), loads of persistent memory, acts; what each says, and that the machine does it. -/
import Derived.Test.YtenmmfkgopffgaaGreatDoorFa
set_option linter.unusedVariables false
set_option linter.unusedSimpArgs false
namespace Go.Proofs.YtenmmfkgopffgaaGreatDoor
open Go

abbrev Env := List (Nat × Value)
def lk : Env → Nat → Option Value
  | [], _ => none
  | (s, v) :: r, t => bif s == t then some v else lk r t
def ev (e : Env) : Operand → Option Value
  | .tmp t => lk e t
  | .const v => some v
  | .global g => some (.pointer (some ⟨g, 0, none⟩))
  | .func f => some (.func (.func f) #[] #[])
def evs (e : Env) : List Operand → Option (List Value)
  | [] => some []
  | x :: r => match ev e x with
    | some v => match evs e r with
      | some vs => some (v :: vs)
      | none => none
    | none => none

structure Box where
  nm : Nat
  blk : Nat
  cells : List Value
  T : TypeId
def Box.hp (b : Box) : HP := Blk b.blk (.cells b.cells.toArray b.T (0, 0))
def props (bx : List Box) (own : List HP) : List HP := bx.map Box.hp ++ own
def getB : List Box → Nat → Option Box
  | [], _ => none
  | b :: r, n => bif b.nm == n then some b else getB r n
def setB : List Box → Nat → List Value → List Box
  | [], _, _ => []
  | b :: r, n, cs => bif b.nm == n then ⟨b.nm, b.blk, cs, b.T⟩ :: r else b :: setB r n cs

def mkv : Bool → List Value → Value
  | true, cs => .agg cs.toArray
  | false, c :: _ => c
  | false, [] => undef
def vcells : Value → List Value
  | .agg cs => cs.toList
  | v => [v]
theorem vcells_eq (v : Value) : v.cells.toList = vcells v := by cases v <;> rfl
/-- cs with its cells from off on turned to vs -/
def setAt : List Value → Nat → List Value → List Value
  | cs, 0, [] => cs
  | _ :: cs, 0, v :: vs => v :: setAt cs 0 vs
  | [], 0, _ :: _ => []
  | c :: cs, n + 1, vs => c :: setAt cs n vs
  | [], _ + 1, _ => []

def pickV : Bool → Value → Value → Value
  | b, .bool x, .bool y => .bool (bif b then x else y)
  | b, x, y => bif b then x else y

def ibv (op : BinOp) (k : IntKind) (a b : Int) : Value :=
  match op with
  | .add => .int k (k.wrap (a + b))
  | .sub => .int k (k.wrap (a - b))
  | .mul => .int k (k.wrap (a * b))
  | .quo => .int k (k.wrap (a.tdiv b))
  | .rem => .int k (a.tmod b)
  | .eql => .bool (a == b)
  | .neq => .bool (a != b)
  | .lss => .bool (decide (a < b))
  | .leq => .bool (decide (a ≤ b))
  | .gtr => .bool (decide (a > b))
  | .geq => .bool (decide (a ≥ b))
  | _ => undef
def ibOk : BinOp → Bool
  | .add | .sub | .mul | .quo | .rem | .eql | .neq | .lss | .leq | .gtr | .geq => true
  | _ => false
def ibs (op : BinOp) (b : Int) : Prop :=
  match op with
  | .quo | .rem => b ≠ 0
  | _ => True
def sbv (op : BinOp) (s t : ByteArray) : Value :=
  match op with
  | .add => .string (s ++ t)
  | .eql => .bool (s.toList == t.toList)
  | .neq => .bool (!(s.toList == t.toList))
  | _ => undef
def sbOk : BinOp → Bool
  | .add | .eql | .neq => true
  | _ => false
def sbs (op : BinOp) (s t : ByteArray) : Prop :=
  match op with
  | .add => s.size + t.size ≤ 9223372036854775807
  | _ => True

/-- the kinds of cells that '==' compares -/
inductive CK where
  | i | b | s
  deriving DecidableEq
inductive PI where
  | mv (x : Operand)
  | pick (c x y : Operand)
  | picl (c x y : Operand)
  | ib (op : BinOp) (k : IntKind) (x y : Operand)
  | sb (op : BinOp) (x y : Operand)
  | bb (ne : Bool) (x y : Operand)
  | not (x : Operand)
  | fld (x : Operand) (off n : Nat) (agg : Bool)
  | len (x : Operand)
  | slen (x : Operand)
  | mkf (fn : FuncId) (first caps : List Operand)
  | ext (x : Operand) (i : Nat)
  | fad (x : Operand) (off : Nat)
  | idx (x i : Operand) (k : Nat)
  | bld (b off n : Nat) (agg : Bool) (x : Operand)
  | nck (x : Operand)
  | mki (T : TypeId) (x : Operand)
  | cnv (k : IntKind) (x : Operand)
  | mks (zs : List Value) (parts : List (Nat × Nat × Operand))
  | sq (ne : Bool) (ks : List CK) (x y : Operand)
  | snil (ne : Bool) (x : Operand)
  | inl (ne : Bool) (x : Operand)
  | mnx (mx : Bool) (k : IntKind) (x y : Operand)
  | ssl (x : Operand) (lo hi : Option Operand)
  | slc (x : Operand) (lo hi : Option Operand) (k : Nat)
  | six (x i : Operand)
  | neg (k : IntKind) (x : Operand)

/-- a struct's cells, field after field -/
def mksV (e : Env) : List Value → List (Nat × Nat × Operand) → Option (Prop × List Value)
  | cs, [] => some (True, cs)
  | cs, (off, n, x) :: r => match ev e x with
    | some v => match mksV e (setAt cs off (vcells v)) r with
      | some (s, cs') => some ((vcells v).length = n ∧ s, cs')
      | none => none
    | none => none
/-- '==' of cells -/
def c1eq : Value → Value → Bool
  | .int _ a, .int _ b => a == b
  | .bool a, .bool b => a == b
  | .string a, .string b => a.toList == b.toList
  | _, _ => false
def ceq : List Value → List Value → Bool
  | [], [] => true
  | x :: r, y :: s => c1eq x y && ceq r s
  | _, _ => false
def k1ok : CK → Value → Value → Prop
  | .i, .int k _, .int l _ => k = l
  | .b, .bool _, .bool _ => True
  | .s, .string _, .string _ => True
  | _, _, _ => False
def kok : List CK → List Value → List Value → Prop
  | [], [], [] => True
  | k :: ks, x :: r, y :: s => k1ok k x y ∧ kok ks r s
  | _, _, _ => False
def bnd (e : Env) (d : Nat) : Option Operand → Option Int
  | none => some d
  | some x => match ev e x with
    | some (.int _ i) => some i
    | _ => none

def PI.val (e : Env) (bx : List Box) : PI → Option (Prop × Value)
  | .mv x => match ev e x with
    | some v => some (True, v)
    | none => none
  | .pick c x y => match ev e c, ev e x, ev e y with
    | some (.bool b), some v, some w => some (True, pickV b v w)
    | _, _, _ => none
  | .picl c x y => match ev e c with
    | some (.bool true) => match ev e x with
      | some v => some (True, v)
      | none => none
    | some (.bool false) => match ev e y with
      | some v => some (True, v)
      | none => none
    | _ => none
  | .ib op k x y => match ev e x, ev e y with
    | some (.int j a), some (.int l b) => some (j = k ∧ l = k ∧ ibs op b, ibv op k a b)
    | _, _ => none
  | .sb op x y => match ev e x, ev e y with
    | some (.string a), some (.string b) => some (sbs op a b, sbv op a b)
    | _, _ => none
  | .bb ne x y => match ev e x, ev e y with
    | some (.bool a), some (.bool b) => some (True, .bool (bif ne then !(a == b) else a == b))
    | _, _ => none
  | .not x => match ev e x with
    | some (.bool a) => some (True, .bool (!a))
    | _ => none
  | .fld x off n agg => match ev e x with
    | some (.agg cs) => some ((cs.toList.drop off).length ≥ n ∧ n ≥ 1, mkv agg ((cs.toList.drop off).take n))
    | _ => none
  | .len x => match ev e x with
    | some (.slice _ n _) => some (True, .int .i64 n)
    | _ => none
  | .slen x => match ev e x with
    | some (.string s) => some (True, .int .i64 s.size)
    | _ => none
  | .mkf f first caps => match evs e first, evs e caps with
    | some fs, some vs => some (True, .func (.func f) fs.toArray vs.toArray)
    | _, _ => none
  | .ext x i => match ev e x with
    | some (.tuple vs) => match vs.toList[i]? with
      | some v => some (True, v)
      | none => none
    | _ => none
  | .fad x off => match ev e x with
    | some (.pointer (some ⟨b, o, sp⟩)) => some (sp = none, .pointer (some ⟨b, o + off, none⟩))
    | some (.pointer none) => some (False, .pointer none)
    | _ => none
  | .idx x i k => match ev e x, ev e i with
    | some (.slice (some ⟨b, o, sp⟩) n _), some (.int _ j) => some (sp = none ∧ 0 ≤ j ∧ j < n, .pointer (some ⟨b, o + j.toNat * k, none⟩))
    | some (.slice none _ _), some (.int _ _) => some (False, .pointer (some ⟨0, 0, none⟩))
    | _, _ => none
  | .bld b off n agg x => match getB bx b, ev e x with
    | some w, some v => some (v = .pointer (some ⟨w.blk, off, none⟩) ∧ n ≤ (w.cells.drop off).length ∧ n ≥ 1, mkv agg ((w.cells.drop off).take n))
    | _, _ => none
  | .nck x => match ev e x with
    | some (.pointer (some a)) => some (True, .pointer (some a))
    | _ => none
  | .mki T x => match ev e x with
    | some v => some (True, .iface T v)
    | none => none
  | .cnv k x => match ev e x with
    | some (.int _ n) => some (True, .int k (k.wrap n))
    | _ => none
  | .mks zs parts => match mksV e zs parts with
    | some (s, cs) => some (s, .agg cs.toArray)
    | none => none
  | .sq ne ks x y => match ev e x, ev e y with
    | some (.agg xs), some (.agg ys) => some (kok ks xs.toList ys.toList, .bool (bif ne then !(ceq xs.toList ys.toList) else ceq xs.toList ys.toList))
    | _, _ => none
  | .snil ne x => match ev e x with
    | some (.slice a _ _) => some (True, .bool (bif ne then a.isSome else a.isNone))
    | _ => none
  | .inl ne x => match ev e x with
    | some .nilIface => some (True, .bool (!ne))
    | some (.iface _ _) => some (True, .bool ne)
    | _ => none
  | .mnx mx k x y => match ev e x, ev e y with
    | some (.int j a), some (.int _ b) => some (j = k, .int k (bif mx then (if a < b then b else a) else (if b < a then b else a)))
    | _, _ => none
  | .ssl x lo hi => match ev e x with
    | some (.string s) => match bnd e 0 lo, bnd e s.size hi with
      | some l, some h => some (0 ≤ l ∧ l ≤ h ∧ h ≤ s.size, .string (s.extract l.toNat h.toNat))
      | _, _ => none
    | _ => none
  | .slc x lo hi k => match ev e x with
    | some (.slice a n c) => match bnd e 0 lo, bnd e n hi with
      | some l, some h => some (0 ≤ l ∧ l ≤ h ∧ h ≤ c, .slice (if c = l.toNat then a else a.map (·.add (l.toNat * k))) (h.toNat - l.toNat) (c - l.toNat))
      | _, _ => none
    | _ => none
  | .six x i => match ev e x, ev e i with
    | some (.string s), some (.int _ j) => some (0 ≤ j ∧ j < s.size, .int .u8 (s.data.toList.getD j.toNat 0).toNat)
    | _, _ => none
  | .neg k x => match ev e x with
    | some (.int j a) => some (j = k, .int k (k.wrap (0 - a)))
    | _ => none

theorem setAt_nil (cs : List Value) (o : Nat) : setAt cs o [] = cs := by
  induction cs generalizing o with
  | nil => cases o <;> rfl
  | cons c r ih => cases o with
    | zero => rfl
    | succ o => simp [setAt, ih]
theorem setAt_cons (cs : List Value) (o : Nat) (v : Value) (vs : List Value) : setAt cs o (v :: vs) = setAt (cs.set o v) (o + 1) vs := by
  induction cs generalizing o with
  | nil => cases o <;> simp [setAt]
  | cons c r ih => cases o with
    | zero => simp [setAt]
    | succ o => simp [setAt, ih]
theorem setAt_length (cs : List Value) (o : Nat) (vs : List Value) : (setAt cs o vs).length = cs.length := by
  induction vs generalizing cs o with
  | nil => rw [setAt_nil]
  | cons v r ih => rw [setAt_cons, ih, List.length_set]
/-! ### Operands compared -/
def v1same : Value → Value → Bool
  | .bool a, .bool b => a == b
  | .int k a, .int j b => decide (k = j) && decide (a = b)
  | .string s, .string t => decide (s.data.toList = t.data.toList)
  | .pointer none, .pointer none => true
  | .slice none a b, .slice none c d => a == c && b == d
  | .map none, .map none => true
  | .nilFunc, .nilFunc => true
  | .nilIface, .nilIface => true
  | _, _ => false
theorem v1same_eq {a b : Value} (h : v1same a b = true) : a = b := by
  cases a <;> cases b <;> simp only [v1same] at h <;> try (first | (cases h; done) | (simp at h; done))
  all_goals first
    | rfl
    | (simp at h; simp [h]; done)
    | skip
  case string s t =>
    have h := of_decide_eq_true h
    obtain ⟨s⟩ := s; obtain ⟨t⟩ := t
    have : s = t := Array.ext' (by simpa using h)
    simp [this]
  case pointer x y =>
    cases x <;> cases y <;> simp_all
  case slice x p q y r s =>
    cases x <;> cases y <;> simp_all
  case map x y => cases x <;> cases y <;> simp_all
def vlsame : List Value → List Value → Bool
  | [], [] => true
  | a :: r, b :: s => v1same a b && vlsame r s
  | _, _ => false
theorem vlsame_eq {a b : List Value} (h : vlsame a b = true) : a = b := by
  induction a generalizing b with
  | nil => cases b <;> simp [vlsame] at h ⊢
  | cons x r ih =>
    cases b with
    | nil => simp [vlsame] at h
    | cons y s => simp [vlsame] at h; rw [v1same_eq h.1, ih h.2]
def vsame : Value → Value → Bool
  | .agg a, .agg b => vlsame a.toList b.toList
  | .tuple a, .tuple b => vlsame a.toList b.toList
  | a, b => v1same a b
theorem vsame_eq {a b : Value} (h : vsame a b = true) : a = b := by
  cases a <;> cases b <;> simp only [vsame] at h <;> first
    | exact v1same_eq h
    | (have := vlsame_eq h; rw [Array.toList_inj] at this; rw [this])
def osame : Operand → Operand → Bool
  | .tmp a, .tmp b => a == b
  | .const a, .const b => vsame a b
  | .global a, .global b => a == b
  | .func a, .func b => a == b
  | _, _ => false
theorem osame_eq {a b : Operand} (h : osame a b = true) : a = b := by
  cases a <;> cases b <;> simp only [osame] at h <;> first
    | (cases h; done)
    | (simp at h; rw [h]; done)
    | (rw [vsame_eq h])
def olsame : List Operand → List Operand → Bool
  | [], [] => true
  | a :: r, b :: s => osame a b && olsame r s
  | _, _ => false
theorem olsame_eq {a b : List Operand} (h : olsame a b = true) : a = b := by
  induction a generalizing b with
  | nil => cases b <;> simp [olsame] at h ⊢
  | cons x r ih =>
    cases b with
    | nil => simp [olsame] at h
    | cons y s => simp [olsame] at h; rw [osame_eq h.1, ih h.2]
def bopSame (a b : BinOp) : Bool := decide (a = b)
end Go.Proofs.YtenmmfkgopffgaaGreatDoor
