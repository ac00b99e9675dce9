/- Part 20 of the proofs that the program's StateBack and StateBalance return true (texts Pb Pc joined): what its functions compute. -/
import Derived.Test.YtenmmfkgopffgaaGreatDoorMas
set_option linter.unusedVariables false
set_option linter.unusedSimpArgs false
namespace Go.Proofs.YtenmmfkgopffgaaGreatDoor
open Go
def tI (n : Int) : Str := itoaB n ++ [59]
def tN (n : Int) : Str := bif decide (n < 0) then [] else tI n
def tNs : List Int → Str
  | [] => []
  | n :: r => tN n ++ tNs r
def tT (s : ByteArray) : Str := itoaB s.size ++ 58 :: (s.data.toList ++ [44])
def tL (l : List Int) : Str := itoaB l.length ++ 91 :: (l.flatMap tI ++ [93])
def tF (b : Bool) : Str := tN (bif b then 1 else 0)
def tAll {α : Type} (tx : α → Str) : List α → Str
  | [] => []
  | x :: r => tx x ++ tAll tx r
theorem tAll_app {α : Type} (tx : α → Str) (a b : List α) : tAll tx (a ++ b) = tAll tx a ++ tAll tx b := by
  induction a with
  | nil => rfl
  | cons x r ih => simp [tAll, ih]
theorem tNs_app (a b : List Int) : tNs (a ++ b) = tNs a ++ tNs b := by
  induction a with
  | nil => rfl
  | cons x r ih => simp [tNs, ih]
theorem tNs_eq (l : List Int) : tNs l = tAll tN l := by
  induction l with
  | nil => rfl
  | cons x r ih => simp [tNs, tAll, ih]
def tMember (m : Member) : Str := tNs [m.key, m.joined] ++ (tL m.backs ++ tNs [m.had, m.debt])
def tPaid (p : Paid) : Str := tNs [p.mark, p.who, p.period, p.day, p.n]
def tBid (b : Bid) : Str := tNs [b.mark, b.who] ++ (tI b.n ++ tF b.op)
def tVoice (v : Voice) : Str := tNs [v.mark, v.who] ++ (tF v.yes ++ tNs [v.day])
def tProposal (p : Proposal) : Str := tNs [p.mark, p.day, p.kind, p.voices.length] ++ (tAll tVoice p.voices ++ tNs [p.done])
def tClaim (c : Claim) : Str := tNs [c.mark, c.circle, c.who, c.n, c.event, c.day, c.proofs] ++ (tL c.jury ++ (tL c.again ++ tNs [c.state, c.grant, c.from_]))
def tCircle (c : Circle) : Str :=
  tNs [c.id, c.found] ++ (tT c.text ++ (tNs [c.version, c.law, c.members.length] ++ (tAll tMember c.members ++ (tNs [c.paid.length] ++ (tAll tPaid c.paid ++ (tNs [c.bids.length] ++ (tAll tBid c.bids ++
  (tNs [c.turns.length] ++ (tAll tI c.turns ++ (tL c.pots ++ (tL c.out ++ (tNs [c.op.length] ++ (tAll tProposal c.op ++ (tNs [c.claims.length] ++ (tAll tClaim c.claims ++ (tI c.fund ++ tF c.ended))))))))))))))))
def tLot (l : Lot) : Str := tNs [l.mark, l.from_, l.to_, l.owner, l.holder, l.until_] ++ tI l.spent
def tVoid (v : Void) : Str := tNs [v.mark, v.err]
def tState (s : State) : Str :=
  tNs [s.day] ++ (tL s.keys ++ (tNs [s.circles.length] ++ (tAll tCircle s.circles ++ (tNs [s.lots.length] ++ (tAll tLot s.lots ++ (tNs [s.voids.length] ++ tAll tVoid s.voids))))))
def textB (s : State) : Str := bif rightB s then tState s else []
def i64min : Int := -9223372036854775808
def rdNum (r : Rd) : Int × Rd := rdNumber 59 0 r
def rdInt (r : Rd) : Int × Rd := rdNumber 59 i64min r
def rdClose (e : UInt8) (r : Rd) : Rd := match r.rest with
  | [] => rdFail
  | c :: t => bif c == e then ⟨t, r.bad⟩ else rdFail
def rdText (r : Rd) : Str × Rd :=
  let (n, r1) := rdNumber 58 0 r
  bif decide ((r1.rest.length : Int) < n) then ([], rdFail) else
    let r2 := rdClose 44 ⟨r1.rest.drop n.toNat, r1.bad⟩
    (bif r2.bad then [] else r1.rest.take n.toNat, r2)
def itL {α : Type} (one : Rd → α × Rd) : Nat → Int → List α → Rd → List α × Rd
  | 0, _, acc, r => (acc, r)
  | f + 1, n, acc, r => bif decide (0 < n) && !r.bad then itL one f (n - 1) (acc ++ [(one r).1]) (one r).2 else (acc, r)
def rdItems {α : Type} (one : Rd → α × Rd) (r : Rd) : List α × Rd :=
  let (n, r1) := rdNumber 91 0 r
  let (out, r2) := itL one (r1.rest.length + 2) n [] r1
  let r3 := rdClose 93 r2
  (bif r3.bad then [] else out, r3)
def rdNums (r : Rd) : List Int × Rd := rdItems rdInt r
def eaL {α : Type} (one : Rd → α × Rd) : Nat → Int → List α → Rd → List α × Rd
  | 0, _, acc, r => (acc, r)
  | f + 1, n, acc, r => bif decide (0 < n) && decide (0 < r.rest.length) then eaL one f (n - 1) (acc ++ [(one r).1]) (one r).2 else (acc, r)
def rdEach {α : Type} (one : Rd → α × Rd) (r : Rd) : List α × Rd :=
  let (n, r1) := rdNum r
  eaL one (r1.rest.length + 1) n [] r1
def rdFlag (r : Rd) : Bool × Rd := let (n, r1) := rdNum r; (n == 1, r1)
def rdMember (r : Rd) : Member × Rd :=
  let p1 := rdNum r; let p2 := rdNum p1.2; let p3 := rdNums p2.2; let p4 := rdNum p3.2; let p5 := rdNum p4.2
  (⟨p1.1, p2.1, p3.1, p4.1, p5.1⟩, p5.2)
def rdPaid (r : Rd) : Paid × Rd :=
  let p1 := rdNum r; let p2 := rdNum p1.2; let p3 := rdNum p2.2; let p4 := rdNum p3.2; let p5 := rdNum p4.2
  (⟨p1.1, p2.1, p3.1, p4.1, p5.1⟩, p5.2)
def rdBid (r : Rd) : Bid × Rd :=
  let p1 := rdNum r; let p2 := rdNum p1.2; let p3 := rdInt p2.2; let p4 := rdFlag p3.2
  (⟨p1.1, p2.1, p3.1, p4.1⟩, p4.2)
def rdVoice (r : Rd) : Voice × Rd :=
  let p1 := rdNum r; let p2 := rdNum p1.2; let p3 := rdFlag p2.2; let p4 := rdNum p3.2
  (⟨p1.1, p2.1, p3.1, p4.1⟩, p4.2)
def rdProposal (r : Rd) : Proposal × Rd :=
  let p1 := rdNum r; let p2 := rdNum p1.2; let p3 := rdNum p2.2; let p4 := rdEach rdVoice p3.2; let p5 := rdNum p4.2
  (⟨p1.1, p2.1, p3.1, p4.1, p5.1⟩, p5.2)
def rdClaim (r : Rd) : Claim × Rd :=
  let p1 := rdNum r; let p2 := rdNum p1.2; let p3 := rdNum p2.2; let p4 := rdNum p3.2; let p5 := rdNum p4.2; let p6 := rdNum p5.2; let p7 := rdNum p6.2; let p8 := rdNums p7.2; let p9 := rdNums p8.2; let p10 := rdNum p9.2; let p11 := rdNum p10.2; let p12 := rdNum p11.2
  (⟨p1.1, p2.1, p3.1, p4.1, p5.1, p6.1, p7.1, p8.1, p9.1, p10.1, p11.1, p12.1⟩, p12.2)
def strBA (l : Str) : ByteArray := ⟨l.toArray⟩
def rdCircle (r : Rd) : Circle × Rd :=
  let p1 := rdNum r; let p2 := rdNum p1.2; let p3 := rdText p2.2; let p4 := rdNum p3.2; let p5 := rdNum p4.2; let p6 := rdEach rdMember p5.2; let p7 := rdEach rdPaid p6.2; let p8 := rdEach rdBid p7.2; let p9 := rdEach rdInt p8.2; let p10 := rdNums p9.2; let p11 := rdNums p10.2; let p12 := rdEach rdProposal p11.2; let p13 := rdEach rdClaim p12.2; let p14 := rdInt p13.2; let p15 := rdFlag p14.2
  (⟨p1.1, p2.1, strBA p3.1, p4.1, p5.1, p6.1, p7.1, p8.1, p9.1, p10.1, p11.1, p12.1, p13.1, p14.1, p15.1⟩, p15.2)
def rdLot (r : Rd) : Lot × Rd :=
  let p1 := rdNum r; let p2 := rdNum p1.2; let p3 := rdNum p2.2; let p4 := rdNum p3.2; let p5 := rdNum p4.2; let p6 := rdNum p5.2; let p7 := rdInt p6.2
  (⟨p1.1, p2.1, p3.1, p4.1, p5.1, p6.1, p7.1⟩, p7.2)
def rdVoid (r : Rd) : Void × Rd :=
  let p1 := rdNum r; let p2 := rdNum p1.2
  (⟨p1.1, p2.1⟩, p2.2)
def rdState (r : Rd) : State × Rd :=
  let p1 := rdNum r; let p2 := rdNums p1.2; let p3 := rdEach rdCircle p2.2; let p4 := rdEach rdLot p3.2; let p5 := rdEach rdVoid p4.2
  (⟨p1.1, p2.1, p3.1, p4.1, p5.1⟩, p5.2)
def zeroS : State := ⟨0, [], [], [], []⟩
def readB (t : Str) : State × Int :=
  let (s, r) := rdState ⟨t, false⟩
  bif !r.bad && r.rest.isEmpty && (rightB s && (textB s == t)) then (s, 0) else (zeroS, 2)
def Inv1 {α : Type} (one : Rd → α × Rd) (t : Str) (x : α) : Prop := ∀ r : Str, one ⟨t ++ r, false⟩ = (x, ⟨r, false⟩)
def nn (n : Int) : Prop := 0 ≤ n ∧ n ≤ 9223372036854775807
theorem dg59 : ¬ isDg 59 ∧ (59 : UInt8).toNat ≠ 45 := by unfold isDg; decide
theorem dg58 : ¬ isDg 58 ∧ (58 : UInt8).toNat ≠ 45 := by unfold isDg; decide
theorem dg91 : ¬ isDg 91 ∧ (91 : UInt8).toNat ≠ 45 := by unfold isDg; decide
theorem tN_nn {n : Int} (h : 0 ≤ n) : tN n = itoaB n ++ [59] := by
  unfold tN tI
  have : ¬ n < 0 := by omega
  simp [this]
theorem inv_num {n : Int} (h : nn n) : Inv1 rdNum (tN n) n := by
  obtain ⟨h0, h1⟩ := h
  intro r
  rw [tN_nn h0, List.append_assoc]
  exact rdNumber_ok dg59 ⟨by omega, h1⟩ h0
theorem inv_int {n : Int} (h : i64 n) : Inv1 rdInt (tI n) n := by
  intro r
  unfold tI
  rw [List.append_assoc]
  exact rdNumber_ok dg59 h h.1
theorem inv_flag (f : Bool) : Inv1 rdFlag (tF f) f := by
  intro r
  unfold rdFlag tF
  cases f
  · rw [show (bif false then (1 : Int) else 0) = 0 from rfl, inv_num ⟨by omega, by omega⟩]; rfl
  · rw [show (bif true then (1 : Int) else 0) = 1 from rfl, inv_num ⟨by omega, by omega⟩]; rfl
theorem inv_text {s : ByteArray} (h : s.size ≤ maxN) : Inv1 rdText (tT s) s.data.toList := by
  intro r
  unfold rdText tT
  unfold maxN at h
  have hs : s.size = s.data.toList.length := by rw [Array.length_toList]; rfl
  rw [List.append_assoc, List.cons_append, rdNumber_ok dg58 ⟨by omega, by omega⟩ (by omega)]
  have e1 : decide (((s.data.toList ++ ([44] ++ r)).length : Int) < (s.size : Int)) = false := by
    rw [hs]; simp; omega
  have e2 : ((s.size : Nat) : Int).toNat = s.data.toList.length := by rw [← hs]; omega
  simp only [List.append_assoc, e1, cond_false, e2, List.drop_left, List.take_left]
  rfl
theorem itL_ok {α : Type} {one : Rd → α × Rd} {tx : α → Str} : ∀ (l : List α) (f : Nat) (acc : List α) (r : Str), (∀ x ∈ l, Inv1 one (tx x) x) → l.length < f →
    itL one f l.length acc ⟨tAll tx l ++ r, false⟩ = (acc ++ l, ⟨r, false⟩)
  | [], f + 1, acc, r, _, _ => by simp [itL, tAll]
  | x :: l, f + 1, acc, r, h, hf => by
    have e : decide ((0 : Int) < ((x :: l).length : Nat)) = true := by simp
    rw [itL, e]
    simp only [Bool.not_false, Bool.and_self, cond_true, tAll, List.append_assoc]
    rw [h x (by simp)]
    have e2 : (((x :: l).length : Nat) : Int) - 1 = (l.length : Nat) := by simp
    simp only [e2]
    rw [itL_ok l f _ r (fun y hy => h y (by simp [hy])) (by simp at hf; omega)]
    simp
  | _, 0, _, _, _, hf => by omega
theorem tAll_len {α : Type} {tx : α → Str} {l : List α} (h : ∀ x ∈ l, tx x ≠ []) : l.length ≤ (tAll tx l).length := by
  induction l with
  | nil => simp
  | cons x r ih =>
    have h1 := ih fun y hy => h y (by simp [hy])
    have h2 : 0 < (tx x).length := List.length_pos_iff.2 (h x (by simp))
    simp [tAll]; omega
theorem inv_items {α : Type} {one : Rd → α × Rd} {tx : α → Str} {l : List α} (hl : l.length ≤ maxN) (h : ∀ x ∈ l, Inv1 one (tx x) x) (hne : ∀ x ∈ l, tx x ≠ []) : Inv1 (rdItems one) (itoaB l.length ++ 91 :: (tAll tx l ++ [93])) l := by
  intro r
  unfold maxN at hl
  unfold rdItems
  rw [List.append_assoc, List.cons_append, rdNumber_ok dg91 ⟨by omega, by omega⟩ (by omega)]
  have := tAll_len hne
  simp only [List.append_assoc]
  rw [itL_ok l _ [] _ h (by simp; omega)]
  rfl
theorem flatMap_tAll (l : List Int) : l.flatMap tI = tAll tI l := by
  induction l with
  | nil => rfl
  | cons x r ih => simp [tAll, ih]
theorem tI_ne (n : Int) : tI n ≠ [] := by unfold tI; simp
theorem inv_nums {l : List Int} (hl : l.length ≤ maxN) (h : ∀ x ∈ l, i64 x) : Inv1 rdNums (tL l) l := by
  unfold tL rdNums
  rw [flatMap_tAll]
  exact inv_items hl (fun x hx => inv_int (h x hx)) (fun x _ => tI_ne x)
theorem eaL_ok {α : Type} {one : Rd → α × Rd} {tx : α → Str} : ∀ (l : List α) (f : Nat) (acc : List α) (r : Str), (∀ x ∈ l, Inv1 one (tx x) x) → (∀ x ∈ l, tx x ≠ []) → l.length < f →
    eaL one f l.length acc ⟨tAll tx l ++ r, false⟩ = (acc ++ l, ⟨r, false⟩)
  | [], f + 1, acc, r, _, _, _ => by simp [eaL, tAll]
  | x :: l, f + 1, acc, r, h, hne, hf => by
    have e : decide ((0 : Int) < ((x :: l).length : Nat)) = true := by simp
    have h0 : 0 < (tx x).length := List.length_pos_iff.2 (hne x (by simp))
    have e1 : decide (0 < (tAll tx (x :: l) ++ r).length) = true := by simp [tAll]; omega
    rw [eaL, e]
    simp only [e1, Bool.and_self, cond_true]
    simp only [tAll, List.append_assoc]
    rw [h x (by simp)]
    have e2 : (((x :: l).length : Nat) : Int) - 1 = (l.length : Nat) := by simp
    simp only [e2]
    rw [eaL_ok l f _ r (fun y hy => h y (by simp [hy])) (fun y hy => hne y (by simp [hy])) (by simp at hf; omega)]
    simp
  | _, 0, _, _, _, _, hf => by omega
theorem inv_each {α : Type} {one : Rd → α × Rd} {tx : α → Str} {l : List α} (hl : l.length ≤ maxN) (h : ∀ x ∈ l, Inv1 one (tx x) x) (hne : ∀ x ∈ l, tx x ≠ []) : Inv1 (rdEach one) (tN l.length ++ tAll tx l) l := by
  intro r
  unfold maxN at hl
  unfold rdEach
  rw [List.append_assoc, inv_num ⟨by omega, by omega⟩]
  have := tAll_len hne
  simp only
  rw [eaL_ok l _ [] _ h hne (by simp; omega)]
  rfl
theorem tN_ne {n : Int} (h : 0 ≤ n) : tN n ≠ [] := by rw [tN_nn h]; simp
def nnl (l : List Int) : Prop := ∀ x ∈ l, nn x
def ilk (l : List Int) : Prop := l.length ≤ maxN ∧ ∀ x ∈ l, i64 x
def okMember (m : Member) : Prop := nnl [m.key, m.joined, m.had, m.debt] ∧ ilk m.backs
def okPaid (p : Paid) : Prop := nnl [p.mark, p.who, p.period, p.day, p.n]
def okBid (b : Bid) : Prop := nnl [b.mark, b.who] ∧ i64 b.n
def okVoice (v : Voice) : Prop := nnl [v.mark, v.who, v.day]
def okL {α : Type} (ok : α → Prop) (l : List α) : Prop := l.length ≤ maxN ∧ ∀ x ∈ l, ok x
def okProposal (p : Proposal) : Prop := nnl [p.mark, p.day, p.kind, p.done] ∧ okL okVoice p.voices
def okClaim (c : Claim) : Prop := nnl [c.mark, c.circle, c.who, c.n, c.event, c.day, c.proofs, c.state, c.grant, c.from_] ∧ ilk c.jury ∧ ilk c.again
def okCircle (c : Circle) : Prop := nnl [c.id, c.found, c.version, c.law] ∧ c.text.size ≤ maxN ∧ okL okMember c.members ∧ okL okPaid c.paid ∧ okL okBid c.bids ∧ ilk c.turns ∧ ilk c.pots ∧ ilk c.out ∧ okL okProposal c.op ∧ okL okClaim c.claims ∧ i64 c.fund
def okLot (l : Lot) : Prop := nnl [l.mark, l.from_, l.to_, l.owner, l.holder, l.until_] ∧ i64 l.spent
def okVoid (v : Void) : Prop := nnl [v.mark, v.err]
def okState (s : State) : Prop := nn s.day ∧ ilk s.keys ∧ okL okCircle s.circles ∧ okL okLot s.lots ∧ okL okVoid s.voids
theorem nnl_cons {a : Int} {l : List Int} : nnl (a :: l) ↔ nn a ∧ nnl l := by simp [nnl]
theorem ne_app {a b : Str} (h : a ≠ []) : a ++ b ≠ [] := by simp [h]
theorem inv_member {m : Member} (h : okMember m) : Inv1 rdMember (tMember m) m := by
  obtain ⟨h, hb⟩ := h
  simp only [nnl_cons] at h
  obtain ⟨a, b, d, e, _⟩ := h
  intro r
  unfold rdMember tMember
  simp only [tNs, List.append_nil, List.append_assoc, inv_num a _, inv_num b _, inv_nums hb.1 hb.2 _, inv_num d _, inv_num e _]
theorem ne_member {m : Member} (h : okMember m) : tMember m ≠ [] := ne_app (ne_app (tN_ne (h.1 _ (by simp)).1))
theorem inv_paid {m : Paid} (h : okPaid m) : Inv1 rdPaid (tPaid m) m := by
  unfold okPaid at h
  simp only [nnl_cons] at h
  obtain ⟨a, b, c, d, e, _⟩ := h
  intro r
  unfold rdPaid tPaid
  simp only [tNs, List.append_nil, List.append_assoc, inv_num a _, inv_num b _, inv_num c _, inv_num d _, inv_num e _]
theorem ne_paid {m : Paid} (h : okPaid m) : tPaid m ≠ [] := ne_app (tN_ne (h _ (by simp)).1)
theorem inv_bid {m : Bid} (h : okBid m) : Inv1 rdBid (tBid m) m := by
  obtain ⟨h, hi⟩ := h
  simp only [nnl_cons] at h
  obtain ⟨a, b, _⟩ := h
  intro r
  unfold rdBid tBid
  simp only [tNs, List.append_nil, List.append_assoc, inv_num a _, inv_num b _, inv_int hi _, inv_flag m.op _]
theorem ne_bid {m : Bid} (h : okBid m) : tBid m ≠ [] := ne_app (ne_app (tN_ne (h.1 _ (by simp)).1))
theorem inv_voice {m : Voice} (h : okVoice m) : Inv1 rdVoice (tVoice m) m := by
  unfold okVoice at h
  simp only [nnl_cons] at h
  obtain ⟨a, b, c, _⟩ := h
  intro r
  unfold rdVoice tVoice
  simp only [tNs, List.append_nil, List.append_assoc, inv_num a _, inv_num b _, inv_flag m.yes _, inv_num c _]
theorem ne_voice {m : Voice} (h : okVoice m) : tVoice m ≠ [] := ne_app (ne_app (tN_ne (h _ (by simp)).1))
theorem inv_proposal {m : Proposal} (h : okProposal m) : Inv1 rdProposal (tProposal m) m := by
  obtain ⟨h, hv⟩ := h
  simp only [nnl_cons] at h
  obtain ⟨a, b, c, d, _⟩ := h
  intro r
  unfold rdProposal tProposal
  have hl := inv_each (tx := tVoice) hv.1 (fun x hx => inv_voice (hv.2 x hx)) (fun x hx => ne_voice (hv.2 x hx))
  unfold Inv1 at hl
  simp only [List.append_assoc] at hl
  simp only [tNs, List.append_nil, List.append_assoc, inv_num a _, inv_num b _, inv_num c _, hl _, inv_num d _]
theorem ne_proposal {m : Proposal} (h : okProposal m) : tProposal m ≠ [] := ne_app (ne_app (tN_ne (h.1 _ (by simp)).1))
theorem inv_claim {m : Claim} (h : okClaim m) : Inv1 rdClaim (tClaim m) m := by
  obtain ⟨h, hj, ha⟩ := h
  simp only [nnl_cons] at h
  obtain ⟨a, b, c, d, e, f, g, i, j, k, _⟩ := h
  intro r
  unfold rdClaim tClaim
  simp only [tNs, List.append_nil, List.append_assoc, inv_num a _, inv_num b _, inv_num c _, inv_num d _, inv_num e _, inv_num f _, inv_num g _, inv_nums hj.1 hj.2 _, inv_nums ha.1 ha.2 _, inv_num i _, inv_num j _, inv_num k _]
theorem ne_claim {m : Claim} (h : okClaim m) : tClaim m ≠ [] := ne_app (ne_app (tN_ne (h.1 _ (by simp)).1))
theorem inv_circle {m : Circle} (h : okCircle m) : Inv1 rdCircle (tCircle m) m := by
  obtain ⟨h, ht, hm, hp, hb, htu, hpo, hou, hop, hcl, hfu⟩ := h
  simp only [nnl_cons] at h
  obtain ⟨a, b, c, d, _⟩ := h
  intro r
  have i1 := inv_each (tx := tMember) hm.1 (fun x hx => inv_member (hm.2 x hx)) (fun x hx => ne_member (hm.2 x hx))
  have i2 := inv_each (tx := tPaid) hp.1 (fun x hx => inv_paid (hp.2 x hx)) (fun x hx => ne_paid (hp.2 x hx))
  have i3 := inv_each (tx := tBid) hb.1 (fun x hx => inv_bid (hb.2 x hx)) (fun x hx => ne_bid (hb.2 x hx))
  have i4 := inv_each (tx := tI) htu.1 (fun x hx => inv_int (htu.2 x hx)) (fun x hx => tI_ne x)
  have i5 := inv_each (tx := tProposal) hop.1 (fun x hx => inv_proposal (hop.2 x hx)) (fun x hx => ne_proposal (hop.2 x hx))
  have i6 := inv_each (tx := tClaim) hcl.1 (fun x hx => inv_claim (hcl.2 x hx)) (fun x hx => ne_claim (hcl.2 x hx))
  unfold Inv1 at i1 i2 i3 i4 i5 i6
  simp only [List.append_assoc] at i1 i2 i3 i4 i5 i6
  unfold rdCircle tCircle
  simp only [tNs, List.append_nil, List.append_assoc, inv_num a _, inv_num b _, inv_num c _, inv_num d _, inv_text ht _, i1 _, i2 _, i3 _, i4 _, i5 _, i6 _, inv_nums hpo.1 hpo.2 _, inv_nums hou.1 hou.2 _, inv_int hfu _, inv_flag m.ended _]
  rfl
theorem ne_circle {m : Circle} (h : okCircle m) : tCircle m ≠ [] := ne_app (ne_app (tN_ne (h.1 _ (by simp)).1))
theorem inv_lot {m : Lot} (h : okLot m) : Inv1 rdLot (tLot m) m := by
  obtain ⟨h, hi⟩ := h
  simp only [nnl_cons] at h
  obtain ⟨a, b, c, d, e, f, _⟩ := h
  intro r
  unfold rdLot tLot
  simp only [tNs, List.append_nil, List.append_assoc, inv_num a _, inv_num b _, inv_num c _, inv_num d _, inv_num e _, inv_num f _, inv_int hi _]
theorem ne_lot {m : Lot} (h : okLot m) : tLot m ≠ [] := ne_app (ne_app (tN_ne (h.1 _ (by simp)).1))
theorem inv_void {m : Void} (h : okVoid m) : Inv1 rdVoid (tVoid m) m := by
  unfold okVoid at h
  simp only [nnl_cons] at h
  obtain ⟨a, b, _⟩ := h
  intro r
  unfold rdVoid tVoid
  simp only [tNs, List.append_nil, List.append_assoc, inv_num a _, inv_num b _]
theorem ne_void {m : Void} (h : okVoid m) : tVoid m ≠ [] := ne_app (tN_ne (h _ (by simp)).1)
theorem inv_state {m : State} (h : okState m) : Inv1 rdState (tState m) m := by
  obtain ⟨h, hk, hc, hl, hv⟩ := h
  intro r
  have i1 := inv_each (tx := tCircle) hc.1 (fun x hx => inv_circle (hc.2 x hx)) (fun x hx => ne_circle (hc.2 x hx))
  have i2 := inv_each (tx := tLot) hl.1 (fun x hx => inv_lot (hl.2 x hx)) (fun x hx => ne_lot (hl.2 x hx))
  have i3 := inv_each (tx := tVoid) hv.1 (fun x hx => inv_void (hv.2 x hx)) (fun x hx => ne_void (hv.2 x hx))
  unfold Inv1 at i1 i2 i3
  simp only [List.append_assoc] at i1 i2 i3
  unfold rdState tState
  simp only [tNs, List.append_nil, List.append_assoc, inv_num h _, inv_nums hk.1 hk.2 _, i1 _, i2 _, i3 _]
theorem ne_state {m : State} (h : okState m) : tState m ≠ [] := ne_app (ne_app (tN_ne h.1.1))
end Go.Proofs.YtenmmfkgopffgaaGreatDoor

namespace Go.Proofs.YtenmmfkgopffgaaGreatDoor
open Go
def Le1 {α : Type} (one : Rd → α × Rd) (tx : α → Str) : Prop := ∀ r, (one r).2.bad = false → r.bad = false ∧ (tx (one r).1).length + (one r).2.rest.length ≤ r.rest.length
theorem le_num : Le1 rdNum tN := by
  intro r h
  rcases rdNumber_cases 59 0 r with q | ⟨n, r', q, hr, hn⟩
  · unfold rdNum at h; rw [q] at h; cases h
  · unfold rdNum at h ⊢
    rw [q] at h ⊢
    rw [hr, tN_nn hn]
    refine ⟨h, ?_⟩
    simp; omega
theorem le_int : Le1 rdInt tI := by
  intro r h
  rcases rdNumber_cases 59 i64min r with q | ⟨n, r', q, hr, hn⟩
  · unfold rdInt at h; rw [q] at h; cases h
  · unfold rdInt at h ⊢
    rw [q] at h ⊢
    rw [hr, tI]
    refine ⟨h, ?_⟩
    simp; omega
theorem tF_len (b : Bool) : (tF b).length = 2 := by cases b <;> rfl
theorem tN_two {n : Int} (h : 0 ≤ n) : 2 ≤ (tN n).length := by
  rw [tN_nn h]
  have := List.length_pos_iff.2 (itoa_ne n)
  simp; omega
theorem le_flag : Le1 rdFlag tF := by
  intro r h
  unfold rdFlag at h ⊢
  rcases rdNumber_cases 59 0 r with q | ⟨n, r', q, hr, hn⟩
  · have : rdNum r = (0, rdFail) := q
    rw [this] at h; cases h
  · have e : rdNum r = (n, ⟨r', r.bad⟩) := q
    rw [e] at h ⊢
    refine ⟨h, ?_⟩
    rw [tF_len, hr]
    have := List.length_pos_iff.2 (itoa_ne n)
    simp; omega
theorem rdClose_ok {e : UInt8} {r : Rd} (h : (rdClose e r).bad = false) : r.bad = false ∧ r.rest.length = (rdClose e r).rest.length + 1 := by
  unfold rdClose at h ⊢
  split at h
  · cases h
  · rename_i c t hc
    cases hq : (c == e) with
    | false => rw [hq] at h; cases h
    | true =>
      rw [hq] at h
      refine ⟨h, ?_⟩
      rw [hc]; rfl
theorem strBA_list (l : Str) : (strBA l).data.toList = l := by simp [strBA]
theorem strBA_size (l : Str) : (strBA l).size = l.length := by
  show (strBA l).data.size = _
  simp [strBA]
theorem le_text : Le1 rdText (fun t => tT (strBA t)) := by
  intro r h
  unfold rdText at h ⊢
  rcases rdNumber_cases 58 0 r with q | ⟨n, r', q, hr, hn⟩
  · rw [q] at h
    cases h
  · rw [q] at h ⊢
    simp only at h ⊢
    cases hd : decide ((r'.length : Int) < n) with
    | true => rw [hd] at h; cases h
    | false =>
      rw [hd] at h
      simp only [cond_false] at h ⊢
      obtain ⟨h1, h2⟩ := rdClose_ok h
      simp only at h1 h2
      rw [h]
      simp only [cond_false]
      refine ⟨h1, ?_⟩
      have hd := of_decide_eq_false hd
      unfold tT
      rw [strBA_list, strBA_size, hr]
      have hl : (r'.take n.toNat).length = n.toNat := by rw [List.length_take]; omega
      have hc : ((n.toNat : Nat) : Int) = n := by omega
      simp only [List.length_append, List.length_cons, hl, hc, List.length_nil, List.length_drop] at h2 ⊢
      omega
theorem le_itL {α : Type} {one : Rd → α × Rd} {tx : α → Str} (h1 : Le1 one tx) : ∀ (f : Nat) (n : Int) (acc : List α) (r : Rd), 0 ≤ n → (itL one f n acc r).2.bad = false →
    r.bad = false ∧ (tAll tx (itL one f n acc r).1).length + (itL one f n acc r).2.rest.length ≤ (tAll tx acc).length + r.rest.length ∧ ((itL one f n acc r).1.length : Int) ≤ acc.length + n
  | 0, n, acc, r, hn, h => ⟨h, Nat.le_refl _, by simp [itL]; omega⟩
  | f + 1, n, acc, r, hn, h => by
    rw [itL] at h ⊢
    cases hc : decide (0 < n) && !r.bad with
    | false => rw [hc] at h; exact ⟨h, Nat.le_refl _, by simp; omega⟩
    | true =>
      rw [hc] at h
      simp only [cond_true] at h ⊢
      simp at hc
      obtain ⟨a, b, c⟩ := le_itL h1 f _ _ _ (by omega) h
      obtain ⟨d, e⟩ := h1 r a
      refine ⟨d, ?_, ?_⟩
      · rw [tAll_app] at b
        simp [tAll] at b
        omega
      · simp at c ⊢; omega
theorem le_eaL {α : Type} {one : Rd → α × Rd} {tx : α → Str} (h1 : Le1 one tx) : ∀ (f : Nat) (n : Int) (acc : List α) (r : Rd), 0 ≤ n → (eaL one f n acc r).2.bad = false →
    r.bad = false ∧ (tAll tx (eaL one f n acc r).1).length + (eaL one f n acc r).2.rest.length ≤ (tAll tx acc).length + r.rest.length ∧ ((eaL one f n acc r).1.length : Int) ≤ acc.length + n
  | 0, n, acc, r, hn, h => ⟨h, Nat.le_refl _, by simp [eaL]; omega⟩
  | f + 1, n, acc, r, hn, h => by
    rw [eaL] at h ⊢
    cases hc : decide (0 < n) && decide (0 < r.rest.length) with
    | false => rw [hc] at h; exact ⟨h, Nat.le_refl _, by simp; omega⟩
    | true =>
      rw [hc] at h
      simp only [cond_true] at h ⊢
      simp at hc
      obtain ⟨a, b, c⟩ := le_eaL h1 f _ _ _ (by omega) h
      obtain ⟨d, e⟩ := h1 r a
      refine ⟨d, ?_, ?_⟩
      · rw [tAll_app] at b
        simp [tAll] at b
        omega
      · simp at c ⊢; omega
theorem le_items {α : Type} {one : Rd → α × Rd} {tx : α → Str} (h1 : Le1 one tx) : Le1 (rdItems one) (fun l => itoaB l.length ++ 91 :: (tAll tx l ++ [93])) := by
  intro r h
  unfold rdItems at h ⊢
  rcases rdNumber_cases 91 0 r with q | ⟨n, r', q, hr, hn⟩
  · rw [q] at h ⊢
    simp only at h ⊢
    obtain ⟨a, b⟩ := rdClose_ok h
    obtain ⟨c, _⟩ := le_itL h1 _ _ _ _ (Int.le_refl 0) a
    cases c
  · rw [q] at h ⊢
    simp only at h ⊢
    obtain ⟨a, b⟩ := rdClose_ok h
    obtain ⟨c, d, e⟩ := le_itL h1 _ _ _ _ hn a
    rw [h]
    simp only [cond_false]
    refine ⟨c, ?_⟩
    simp only [tAll, List.length_nil] at d e
    have hm := itoa_mono (a := (itL one (r'.length + 2) n [] ⟨r', r.bad⟩).1.length) (b := n.toNat) (by omega)
    have hc : ((n.toNat : Nat) : Int) = n := by omega
    rw [hc] at hm
    rw [hr]
    simp only [List.length_append, List.length_cons, List.length_nil]
    omega
theorem le_nums : Le1 rdNums tL := by
  have := le_items le_int
  intro r h
  obtain ⟨a, b⟩ := this r h
  refine ⟨a, ?_⟩
  unfold tL
  rw [flatMap_tAll]
  exact b
theorem le_each {α : Type} {one : Rd → α × Rd} {tx : α → Str} (h1 : Le1 one tx) : Le1 (rdEach one) (fun l => tN l.length ++ tAll tx l) := by
  intro r h
  unfold rdEach at h ⊢
  rcases rdNumber_cases 59 0 r with q | ⟨n, r', q, hr, hn⟩
  · have : rdNum r = (0, rdFail) := q
    rw [this] at h ⊢
    simp only at h ⊢
    obtain ⟨c, _⟩ := le_eaL h1 _ _ _ _ (Int.le_refl 0) h
    cases c
  · have e : rdNum r = (n, ⟨r', r.bad⟩) := q
    rw [e] at h ⊢
    simp only at h ⊢
    obtain ⟨c, d, e⟩ := le_eaL h1 _ _ _ _ hn h
    refine ⟨c, ?_⟩
    simp only [tAll, List.length_nil] at d e
    have hm := itoa_mono (a := (eaL one (r'.length + 1) n [] ⟨r', r.bad⟩).1.length) (b := n.toNat) (by omega)
    have hc : ((n.toNat : Nat) : Int) = n := by omega
    rw [hc] at hm
    rw [hr, tN_nn (by omega)]
    simp only [List.length_append, List.length_cons, List.length_nil]
    omega
theorem tele1 {x a b t : Nat} (h : x ≤ a) (l : t + a ≤ b) : t + x ≤ b := by omega
theorem tele2 {x a b t s : Nat} (h : x ≤ a) (l : t + (s + a) ≤ b) : t + (s + x) ≤ b := by omega
attribute [local irreducible] itoaB tN tI tNs tT tL tF tAll rdNumber rdNum rdInt rdNums rdText rdFlag rdEach rdItems List.length
theorem le_member_aux (r0 : Rd) (p1 : Int × Rd) (q1 : p1.2.bad = false → r0.bad = false ∧ (tN p1.1).length + p1.2.rest.length ≤ r0.rest.length) (p2 : Int × Rd) (q2 : p2.2.bad = false → p1.2.bad = false ∧ (tN p2.1).length + p2.2.rest.length ≤ p1.2.rest.length) (p3 : List Int × Rd) (q3 : p3.2.bad = false → p2.2.bad = false ∧ (tL p3.1).length + p3.2.rest.length ≤ p2.2.rest.length) (p4 : Int × Rd) (q4 : p4.2.bad = false → p3.2.bad = false ∧ (tN p4.1).length + p4.2.rest.length ≤ p3.2.rest.length) (p5 : Int × Rd) (q5 : p5.2.bad = false → p4.2.bad = false ∧ (tN p5.1).length + p5.2.rest.length ≤ p4.2.rest.length) (h : p5.2.bad = false) : r0.bad = false ∧ (tMember ⟨p1.1, p2.1, p3.1, p4.1, p5.1⟩).length + p5.2.rest.length ≤ r0.rest.length := by
  obtain ⟨h4, l5⟩ := q5 h
  obtain ⟨h3, l4⟩ := q4 h4
  obtain ⟨h2, l3⟩ := q3 h3
  obtain ⟨h1, l2⟩ := q2 h2
  obtain ⟨h0, l1⟩ := q1 h1
  refine ⟨h0, ?_⟩
  unfold tMember
  simp only [tNs, List.append_nil, List.length_append, Nat.add_assoc] at l1 l2 l3 l4 l5 ⊢
  exact tele1 (tele1 (tele1 (tele1 l5 l4) l3) l2) l1
theorem le_member : Le1 rdMember tMember := fun r0 h => le_member_aux r0 _ (le_num _) _ (le_num _) _ (le_nums _) _ (le_num _) _ (le_num _) h
theorem le_paid_aux (r0 : Rd) (p1 : Int × Rd) (q1 : p1.2.bad = false → r0.bad = false ∧ (tN p1.1).length + p1.2.rest.length ≤ r0.rest.length) (p2 : Int × Rd) (q2 : p2.2.bad = false → p1.2.bad = false ∧ (tN p2.1).length + p2.2.rest.length ≤ p1.2.rest.length) (p3 : Int × Rd) (q3 : p3.2.bad = false → p2.2.bad = false ∧ (tN p3.1).length + p3.2.rest.length ≤ p2.2.rest.length) (p4 : Int × Rd) (q4 : p4.2.bad = false → p3.2.bad = false ∧ (tN p4.1).length + p4.2.rest.length ≤ p3.2.rest.length) (p5 : Int × Rd) (q5 : p5.2.bad = false → p4.2.bad = false ∧ (tN p5.1).length + p5.2.rest.length ≤ p4.2.rest.length) (h : p5.2.bad = false) : r0.bad = false ∧ (tPaid ⟨p1.1, p2.1, p3.1, p4.1, p5.1⟩).length + p5.2.rest.length ≤ r0.rest.length := by
  obtain ⟨h4, l5⟩ := q5 h
  obtain ⟨h3, l4⟩ := q4 h4
  obtain ⟨h2, l3⟩ := q3 h3
  obtain ⟨h1, l2⟩ := q2 h2
  obtain ⟨h0, l1⟩ := q1 h1
  refine ⟨h0, ?_⟩
  unfold tPaid
  simp only [tNs, List.append_nil, List.length_append, Nat.add_assoc] at l1 l2 l3 l4 l5 ⊢
  exact tele1 (tele1 (tele1 (tele1 l5 l4) l3) l2) l1
theorem le_paid : Le1 rdPaid tPaid := fun r0 h => le_paid_aux r0 _ (le_num _) _ (le_num _) _ (le_num _) _ (le_num _) _ (le_num _) h
theorem le_bid_aux (r0 : Rd) (p1 : Int × Rd) (q1 : p1.2.bad = false → r0.bad = false ∧ (tN p1.1).length + p1.2.rest.length ≤ r0.rest.length) (p2 : Int × Rd) (q2 : p2.2.bad = false → p1.2.bad = false ∧ (tN p2.1).length + p2.2.rest.length ≤ p1.2.rest.length) (p3 : Int × Rd) (q3 : p3.2.bad = false → p2.2.bad = false ∧ (tI p3.1).length + p3.2.rest.length ≤ p2.2.rest.length) (p4 : Bool × Rd) (q4 : p4.2.bad = false → p3.2.bad = false ∧ (tF p4.1).length + p4.2.rest.length ≤ p3.2.rest.length) (h : p4.2.bad = false) : r0.bad = false ∧ (tBid ⟨p1.1, p2.1, p3.1, p4.1⟩).length + p4.2.rest.length ≤ r0.rest.length := by
  obtain ⟨h3, l4⟩ := q4 h
  obtain ⟨h2, l3⟩ := q3 h3
  obtain ⟨h1, l2⟩ := q2 h2
  obtain ⟨h0, l1⟩ := q1 h1
  refine ⟨h0, ?_⟩
  unfold tBid
  simp only [tNs, List.append_nil, List.length_append, Nat.add_assoc] at l1 l2 l3 l4 ⊢
  exact tele1 (tele1 (tele1 l4 l3) l2) l1
theorem le_bid : Le1 rdBid tBid := fun r0 h => le_bid_aux r0 _ (le_num _) _ (le_num _) _ (le_int _) _ (le_flag _) h
theorem le_voice_aux (r0 : Rd) (p1 : Int × Rd) (q1 : p1.2.bad = false → r0.bad = false ∧ (tN p1.1).length + p1.2.rest.length ≤ r0.rest.length) (p2 : Int × Rd) (q2 : p2.2.bad = false → p1.2.bad = false ∧ (tN p2.1).length + p2.2.rest.length ≤ p1.2.rest.length) (p3 : Bool × Rd) (q3 : p3.2.bad = false → p2.2.bad = false ∧ (tF p3.1).length + p3.2.rest.length ≤ p2.2.rest.length) (p4 : Int × Rd) (q4 : p4.2.bad = false → p3.2.bad = false ∧ (tN p4.1).length + p4.2.rest.length ≤ p3.2.rest.length) (h : p4.2.bad = false) : r0.bad = false ∧ (tVoice ⟨p1.1, p2.1, p3.1, p4.1⟩).length + p4.2.rest.length ≤ r0.rest.length := by
  obtain ⟨h3, l4⟩ := q4 h
  obtain ⟨h2, l3⟩ := q3 h3
  obtain ⟨h1, l2⟩ := q2 h2
  obtain ⟨h0, l1⟩ := q1 h1
  refine ⟨h0, ?_⟩
  unfold tVoice
  simp only [tNs, List.append_nil, List.length_append, Nat.add_assoc] at l1 l2 l3 l4 ⊢
  exact tele1 (tele1 (tele1 l4 l3) l2) l1
theorem le_voice : Le1 rdVoice tVoice := fun r0 h => le_voice_aux r0 _ (le_num _) _ (le_num _) _ (le_flag _) _ (le_num _) h
theorem le_proposal_aux (r0 : Rd) (p1 : Int × Rd) (q1 : p1.2.bad = false → r0.bad = false ∧ (tN p1.1).length + p1.2.rest.length ≤ r0.rest.length) (p2 : Int × Rd) (q2 : p2.2.bad = false → p1.2.bad = false ∧ (tN p2.1).length + p2.2.rest.length ≤ p1.2.rest.length) (p3 : Int × Rd) (q3 : p3.2.bad = false → p2.2.bad = false ∧ (tN p3.1).length + p3.2.rest.length ≤ p2.2.rest.length) (p4 : List Voice × Rd) (q4 : p4.2.bad = false → p3.2.bad = false ∧ ((fun l => tN l.length ++ tAll tVoice l) p4.1).length + p4.2.rest.length ≤ p3.2.rest.length) (p5 : Int × Rd) (q5 : p5.2.bad = false → p4.2.bad = false ∧ (tN p5.1).length + p5.2.rest.length ≤ p4.2.rest.length) (h : p5.2.bad = false) : r0.bad = false ∧ (tProposal ⟨p1.1, p2.1, p3.1, p4.1, p5.1⟩).length + p5.2.rest.length ≤ r0.rest.length := by
  obtain ⟨h4, l5⟩ := q5 h
  obtain ⟨h3, l4⟩ := q4 h4
  obtain ⟨h2, l3⟩ := q3 h3
  obtain ⟨h1, l2⟩ := q2 h2
  obtain ⟨h0, l1⟩ := q1 h1
  refine ⟨h0, ?_⟩
  unfold tProposal
  simp only [tNs, List.append_nil, List.length_append, Nat.add_assoc] at l1 l2 l3 l4 l5 ⊢
  exact tele1 (tele1 (tele1 (tele2 l5 l4) l3) l2) l1
theorem le_proposal : Le1 rdProposal tProposal := fun r0 h => le_proposal_aux r0 _ (le_num _) _ (le_num _) _ (le_num _) _ (le_each le_voice _) _ (le_num _) h
theorem le_claim_aux (r0 : Rd) (p1 : Int × Rd) (q1 : p1.2.bad = false → r0.bad = false ∧ (tN p1.1).length + p1.2.rest.length ≤ r0.rest.length) (p2 : Int × Rd) (q2 : p2.2.bad = false → p1.2.bad = false ∧ (tN p2.1).length + p2.2.rest.length ≤ p1.2.rest.length) (p3 : Int × Rd) (q3 : p3.2.bad = false → p2.2.bad = false ∧ (tN p3.1).length + p3.2.rest.length ≤ p2.2.rest.length) (p4 : Int × Rd) (q4 : p4.2.bad = false → p3.2.bad = false ∧ (tN p4.1).length + p4.2.rest.length ≤ p3.2.rest.length) (p5 : Int × Rd) (q5 : p5.2.bad = false → p4.2.bad = false ∧ (tN p5.1).length + p5.2.rest.length ≤ p4.2.rest.length) (p6 : Int × Rd) (q6 : p6.2.bad = false → p5.2.bad = false ∧ (tN p6.1).length + p6.2.rest.length ≤ p5.2.rest.length) (p7 : Int × Rd) (q7 : p7.2.bad = false → p6.2.bad = false ∧ (tN p7.1).length + p7.2.rest.length ≤ p6.2.rest.length) (p8 : List Int × Rd) (q8 : p8.2.bad = false → p7.2.bad = false ∧ (tL p8.1).length + p8.2.rest.length ≤ p7.2.rest.length) (p9 : List Int × Rd) (q9 : p9.2.bad = false → p8.2.bad = false ∧ (tL p9.1).length + p9.2.rest.length ≤ p8.2.rest.length) (p10 : Int × Rd) (q10 : p10.2.bad = false → p9.2.bad = false ∧ (tN p10.1).length + p10.2.rest.length ≤ p9.2.rest.length) (p11 : Int × Rd) (q11 : p11.2.bad = false → p10.2.bad = false ∧ (tN p11.1).length + p11.2.rest.length ≤ p10.2.rest.length) (p12 : Int × Rd) (q12 : p12.2.bad = false → p11.2.bad = false ∧ (tN p12.1).length + p12.2.rest.length ≤ p11.2.rest.length) (h : p12.2.bad = false) : r0.bad = false ∧ (tClaim ⟨p1.1, p2.1, p3.1, p4.1, p5.1, p6.1, p7.1, p8.1, p9.1, p10.1, p11.1, p12.1⟩).length + p12.2.rest.length ≤ r0.rest.length := by
  obtain ⟨h11, l12⟩ := q12 h
  obtain ⟨h10, l11⟩ := q11 h11
  obtain ⟨h9, l10⟩ := q10 h10
  obtain ⟨h8, l9⟩ := q9 h9
  obtain ⟨h7, l8⟩ := q8 h8
  obtain ⟨h6, l7⟩ := q7 h7
  obtain ⟨h5, l6⟩ := q6 h6
  obtain ⟨h4, l5⟩ := q5 h5
  obtain ⟨h3, l4⟩ := q4 h4
  obtain ⟨h2, l3⟩ := q3 h3
  obtain ⟨h1, l2⟩ := q2 h2
  obtain ⟨h0, l1⟩ := q1 h1
  refine ⟨h0, ?_⟩
  unfold tClaim
  simp only [tNs, List.append_nil, List.length_append, Nat.add_assoc] at l1 l2 l3 l4 l5 l6 l7 l8 l9 l10 l11 l12 ⊢
  exact tele1 (tele1 (tele1 (tele1 (tele1 (tele1 (tele1 (tele1 (tele1 (tele1 (tele1 l12 l11) l10) l9) l8) l7) l6) l5) l4) l3) l2) l1
theorem le_claim : Le1 rdClaim tClaim := fun r0 h => le_claim_aux r0 _ (le_num _) _ (le_num _) _ (le_num _) _ (le_num _) _ (le_num _) _ (le_num _) _ (le_num _) _ (le_nums _) _ (le_nums _) _ (le_num _) _ (le_num _) _ (le_num _) h
theorem le_circle_aux (r0 : Rd) (p1 : Int × Rd) (q1 : p1.2.bad = false → r0.bad = false ∧ (tN p1.1).length + p1.2.rest.length ≤ r0.rest.length) (p2 : Int × Rd) (q2 : p2.2.bad = false → p1.2.bad = false ∧ (tN p2.1).length + p2.2.rest.length ≤ p1.2.rest.length) (p3 : Str × Rd) (q3 : p3.2.bad = false → p2.2.bad = false ∧ ((fun t => tT (strBA t)) p3.1).length + p3.2.rest.length ≤ p2.2.rest.length) (p4 : Int × Rd) (q4 : p4.2.bad = false → p3.2.bad = false ∧ (tN p4.1).length + p4.2.rest.length ≤ p3.2.rest.length) (p5 : Int × Rd) (q5 : p5.2.bad = false → p4.2.bad = false ∧ (tN p5.1).length + p5.2.rest.length ≤ p4.2.rest.length) (p6 : List Member × Rd) (q6 : p6.2.bad = false → p5.2.bad = false ∧ ((fun l => tN l.length ++ tAll tMember l) p6.1).length + p6.2.rest.length ≤ p5.2.rest.length) (p7 : List Paid × Rd) (q7 : p7.2.bad = false → p6.2.bad = false ∧ ((fun l => tN l.length ++ tAll tPaid l) p7.1).length + p7.2.rest.length ≤ p6.2.rest.length) (p8 : List Bid × Rd) (q8 : p8.2.bad = false → p7.2.bad = false ∧ ((fun l => tN l.length ++ tAll tBid l) p8.1).length + p8.2.rest.length ≤ p7.2.rest.length) (p9 : List Int × Rd) (q9 : p9.2.bad = false → p8.2.bad = false ∧ ((fun l => tN l.length ++ tAll tI l) p9.1).length + p9.2.rest.length ≤ p8.2.rest.length) (p10 : List Int × Rd) (q10 : p10.2.bad = false → p9.2.bad = false ∧ (tL p10.1).length + p10.2.rest.length ≤ p9.2.rest.length) (p11 : List Int × Rd) (q11 : p11.2.bad = false → p10.2.bad = false ∧ (tL p11.1).length + p11.2.rest.length ≤ p10.2.rest.length) (p12 : List Proposal × Rd) (q12 : p12.2.bad = false → p11.2.bad = false ∧ ((fun l => tN l.length ++ tAll tProposal l) p12.1).length + p12.2.rest.length ≤ p11.2.rest.length) (p13 : List Claim × Rd) (q13 : p13.2.bad = false → p12.2.bad = false ∧ ((fun l => tN l.length ++ tAll tClaim l) p13.1).length + p13.2.rest.length ≤ p12.2.rest.length) (p14 : Int × Rd) (q14 : p14.2.bad = false → p13.2.bad = false ∧ (tI p14.1).length + p14.2.rest.length ≤ p13.2.rest.length) (p15 : Bool × Rd) (q15 : p15.2.bad = false → p14.2.bad = false ∧ (tF p15.1).length + p15.2.rest.length ≤ p14.2.rest.length) (h : p15.2.bad = false) : r0.bad = false ∧ (tCircle ⟨p1.1, p2.1, strBA p3.1, p4.1, p5.1, p6.1, p7.1, p8.1, p9.1, p10.1, p11.1, p12.1, p13.1, p14.1, p15.1⟩).length + p15.2.rest.length ≤ r0.rest.length := by
  obtain ⟨h14, l15⟩ := q15 h
  obtain ⟨h13, l14⟩ := q14 h14
  obtain ⟨h12, l13⟩ := q13 h13
  obtain ⟨h11, l12⟩ := q12 h12
  obtain ⟨h10, l11⟩ := q11 h11
  obtain ⟨h9, l10⟩ := q10 h10
  obtain ⟨h8, l9⟩ := q9 h9
  obtain ⟨h7, l8⟩ := q8 h8
  obtain ⟨h6, l7⟩ := q7 h7
  obtain ⟨h5, l6⟩ := q6 h6
  obtain ⟨h4, l5⟩ := q5 h5
  obtain ⟨h3, l4⟩ := q4 h4
  obtain ⟨h2, l3⟩ := q3 h3
  obtain ⟨h1, l2⟩ := q2 h2
  obtain ⟨h0, l1⟩ := q1 h1
  refine ⟨h0, ?_⟩
  unfold tCircle
  simp only [tNs, List.append_nil, List.length_append, Nat.add_assoc] at l1 l2 l3 l4 l5 l6 l7 l8 l9 l10 l11 l12 l13 l14 l15 ⊢
  exact tele1 (tele1 (tele1 (tele1 (tele1 (tele2 (tele2 (tele2 (tele2 (tele1 (tele1 (tele2 (tele2 (tele1 l15 l14) l13) l12) l11) l10) l9) l8) l7) l6) l5) l4) l3) l2) l1
theorem le_circle : Le1 rdCircle tCircle := fun r0 h => le_circle_aux r0 _ (le_num _) _ (le_num _) _ (le_text _) _ (le_num _) _ (le_num _) _ (le_each le_member _) _ (le_each le_paid _) _ (le_each le_bid _) _ (le_each le_int _) _ (le_nums _) _ (le_nums _) _ (le_each le_proposal _) _ (le_each le_claim _) _ (le_int _) _ (le_flag _) h
theorem le_lot_aux (r0 : Rd) (p1 : Int × Rd) (q1 : p1.2.bad = false → r0.bad = false ∧ (tN p1.1).length + p1.2.rest.length ≤ r0.rest.length) (p2 : Int × Rd) (q2 : p2.2.bad = false → p1.2.bad = false ∧ (tN p2.1).length + p2.2.rest.length ≤ p1.2.rest.length) (p3 : Int × Rd) (q3 : p3.2.bad = false → p2.2.bad = false ∧ (tN p3.1).length + p3.2.rest.length ≤ p2.2.rest.length) (p4 : Int × Rd) (q4 : p4.2.bad = false → p3.2.bad = false ∧ (tN p4.1).length + p4.2.rest.length ≤ p3.2.rest.length) (p5 : Int × Rd) (q5 : p5.2.bad = false → p4.2.bad = false ∧ (tN p5.1).length + p5.2.rest.length ≤ p4.2.rest.length) (p6 : Int × Rd) (q6 : p6.2.bad = false → p5.2.bad = false ∧ (tN p6.1).length + p6.2.rest.length ≤ p5.2.rest.length) (p7 : Int × Rd) (q7 : p7.2.bad = false → p6.2.bad = false ∧ (tI p7.1).length + p7.2.rest.length ≤ p6.2.rest.length) (h : p7.2.bad = false) : r0.bad = false ∧ (tLot ⟨p1.1, p2.1, p3.1, p4.1, p5.1, p6.1, p7.1⟩).length + p7.2.rest.length ≤ r0.rest.length := by
  obtain ⟨h6, l7⟩ := q7 h
  obtain ⟨h5, l6⟩ := q6 h6
  obtain ⟨h4, l5⟩ := q5 h5
  obtain ⟨h3, l4⟩ := q4 h4
  obtain ⟨h2, l3⟩ := q3 h3
  obtain ⟨h1, l2⟩ := q2 h2
  obtain ⟨h0, l1⟩ := q1 h1
  refine ⟨h0, ?_⟩
  unfold tLot
  simp only [tNs, List.append_nil, List.length_append, Nat.add_assoc] at l1 l2 l3 l4 l5 l6 l7 ⊢
  exact tele1 (tele1 (tele1 (tele1 (tele1 (tele1 l7 l6) l5) l4) l3) l2) l1
theorem le_lot : Le1 rdLot tLot := fun r0 h => le_lot_aux r0 _ (le_num _) _ (le_num _) _ (le_num _) _ (le_num _) _ (le_num _) _ (le_num _) _ (le_int _) h
theorem le_void_aux (r0 : Rd) (p1 : Int × Rd) (q1 : p1.2.bad = false → r0.bad = false ∧ (tN p1.1).length + p1.2.rest.length ≤ r0.rest.length) (p2 : Int × Rd) (q2 : p2.2.bad = false → p1.2.bad = false ∧ (tN p2.1).length + p2.2.rest.length ≤ p1.2.rest.length) (h : p2.2.bad = false) : r0.bad = false ∧ (tVoid ⟨p1.1, p2.1⟩).length + p2.2.rest.length ≤ r0.rest.length := by
  obtain ⟨h1, l2⟩ := q2 h
  obtain ⟨h0, l1⟩ := q1 h1
  refine ⟨h0, ?_⟩
  unfold tVoid
  simp only [tNs, List.append_nil, List.length_append, Nat.add_assoc] at l1 l2 ⊢
  exact tele1 l2 l1
theorem le_void : Le1 rdVoid tVoid := fun r0 h => le_void_aux r0 _ (le_num _) _ (le_num _) h
theorem le_state_aux (r0 : Rd) (p1 : Int × Rd) (q1 : p1.2.bad = false → r0.bad = false ∧ (tN p1.1).length + p1.2.rest.length ≤ r0.rest.length) (p2 : List Int × Rd) (q2 : p2.2.bad = false → p1.2.bad = false ∧ (tL p2.1).length + p2.2.rest.length ≤ p1.2.rest.length) (p3 : List Circle × Rd) (q3 : p3.2.bad = false → p2.2.bad = false ∧ ((fun l => tN l.length ++ tAll tCircle l) p3.1).length + p3.2.rest.length ≤ p2.2.rest.length) (p4 : List Lot × Rd) (q4 : p4.2.bad = false → p3.2.bad = false ∧ ((fun l => tN l.length ++ tAll tLot l) p4.1).length + p4.2.rest.length ≤ p3.2.rest.length) (p5 : List Void × Rd) (q5 : p5.2.bad = false → p4.2.bad = false ∧ ((fun l => tN l.length ++ tAll tVoid l) p5.1).length + p5.2.rest.length ≤ p4.2.rest.length) (h : p5.2.bad = false) : r0.bad = false ∧ (tState ⟨p1.1, p2.1, p3.1, p4.1, p5.1⟩).length + p5.2.rest.length ≤ r0.rest.length := by
  obtain ⟨h4, l5⟩ := q5 h
  obtain ⟨h3, l4⟩ := q4 h4
  obtain ⟨h2, l3⟩ := q3 h3
  obtain ⟨h1, l2⟩ := q2 h2
  obtain ⟨h0, l1⟩ := q1 h1
  refine ⟨h0, ?_⟩
  unfold tState
  simp only [tNs, List.append_nil, List.length_append, Nat.add_assoc] at l1 l2 l3 l4 l5 ⊢
  exact tele1 (tele1 (tele2 (tele2 l5 l4) l3) l2) l1
theorem le_state : Le1 rdState tState := fun r0 h => le_state_aux r0 _ (le_num _) _ (le_nums _) _ (le_each le_circle _) _ (le_each le_lot _) _ (le_each le_void _) h
theorem tI_len (n : Int) : (tI n).length ≤ 22 := by unfold tI; have := itoa_len' n; simp; omega
theorem tN_len (n : Int) : (tN n).length ≤ 22 := by
  unfold tN
  cases decide (n < 0)
  · exact tI_len n
  · simp
theorem tNs_len (l : List Int) : (tNs l).length ≤ 22 * l.length := by
  induction l with
  | nil => simp [tNs]
  | cons x r ih => have := tN_len x; simp [tNs]; omega
theorem tAll_lim {α : Type} {tx : α → Str} {k m : Nat} {l : List α} (h : ∀ x ∈ l, (tx x).length ≤ k) (hm : l.length ≤ m) : (tAll tx l).length ≤ k * m := by
  refine Nat.le_trans ?_ (Nat.mul_le_mul_left k hm)
  induction l with
  | nil => simp [tAll]
  | cons x r ih =>
    have h1 := h x (by simp)
    have h2 := ih (fun y hy => h y (by simp [hy])) (by simp at hm; omega)
    simp only [tAll, List.length_append, List.length_cons, Nat.mul_add]; omega
theorem tL_lim {l : List Int} {m : Nat} (hm : l.length ≤ m) : (tL l).length ≤ 23 + 22 * m := by
  unfold tL
  rw [flatMap_tAll]
  have h1 := itoa_len' l.length
  have h2 := tAll_lim (tx := tI) (k := 22) (fun x _ => tI_len x) hm
  simp; omega
theorem member_lim {m : Member} (h : few1 m = true) : (tMember m).length ≤ 400 := by
  have h := of_decide_eq_true h
  have a := tNs_len [m.key, m.joined]; have b := tL_lim h; have c := tNs_len [m.had, m.debt]
  unfold tMember; simp only [List.length_append, List.length_cons, List.length_nil] at *; omega
theorem paid_lim (m : Paid) : (tPaid m).length ≤ 110 := by
  have a := tNs_len [m.mark, m.who, m.period, m.day, m.n]
  unfold tPaid; simp only [List.length_append, List.length_cons, List.length_nil] at *; omega
theorem bid_lim (m : Bid) : (tBid m).length ≤ 110 := by
  have a := tNs_len [m.mark, m.who]; have b := tI_len m.n; have c := tF_len m.op
  unfold tBid; simp only [List.length_append, List.length_cons, List.length_nil] at *; omega
theorem voice_lim (m : Voice) : (tVoice m).length ≤ 110 := by
  have a := tNs_len [m.mark, m.who]; have b := tNs_len [m.day]; have c := tF_len m.yes
  unfold tVoice; simp only [List.length_append, List.length_cons, List.length_nil] at *; omega
theorem proposal_lim {m : Proposal} (h : few2 m = true) : (tProposal m).length ≤ 2000 := by
  have h := of_decide_eq_true h
  have a := tNs_len [m.mark, m.day, m.kind, m.voices.length]; have b := tNs_len [m.done]; have c := tAll_lim (tx := tVoice) (fun x _ => voice_lim x) h
  unfold tProposal; simp only [List.length_append, List.length_cons, List.length_nil] at *; omega
theorem claim_lim {m : Claim} (h : few3 m = true) : (tClaim m).length ≤ 2000 := by
  unfold few3 at h; simp at h
  have a := tNs_len [m.mark, m.circle, m.who, m.n, m.event, m.day, m.proofs]; have b := tL_lim h.1; have c := tL_lim h.2; have d := tNs_len [m.state, m.grant, m.from_]
  unfold tClaim; simp only [List.length_append, List.length_cons, List.length_nil] at *; omega
theorem circ_sum {x1 x2 x3 x4 x5 x6 x7 x8 x9 y1 y2 y3 y4 y5 y6 y7 y8 y9 z : Nat} (a1 : x1 ≤ 22 * (0 + 1 + 1)) (a2 : x2 ≤ 23 + z) (h9 : z ≤ 2100) (a3 : x3 ≤ 22 * (0 + 1 + 1 + 1)) (a4 : x4 ≤ 400 * 12) (a5 : x5 ≤ 22 * (0 + 1)) (a6 : x6 ≤ 110 * 12) (a7 : x7 ≤ 22 * (0 + 1)) (a8 : x8 ≤ 110 * 12) (a9 : x9 ≤ 22 * (0 + 1)) (b1 : y1 ≤ 22 * 12) (b2 : y2 ≤ 23 + 22 * 12) (b3 : y3 ≤ 23 + 22 * 12) (b4 : y4 ≤ 22 * (0 + 1)) (b5 : y5 ≤ 2000 * 12) (b6 : y6 ≤ 22 * (0 + 1)) (b7 : y7 ≤ 2000 * 12) (b8 : y8 ≤ 22) (b9 : y9 = 2) :
    x1 + (x2 + (x3 + (x4 + (x5 + (x6 + (x7 + (x8 + (x9 + (y1 + (y2 + (y3 + (y4 + (y5 + (y6 + (y7 + (y8 + y9)))))))))))))))) ≤ 100000 :=
  Nat.le_trans (Nat.add_le_add a1 (Nat.add_le_add (Nat.le_trans a2 (Nat.add_le_add_left h9 23)) (Nat.add_le_add a3 (Nat.add_le_add a4 (Nat.add_le_add a5 (Nat.add_le_add a6 (Nat.add_le_add a7 (Nat.add_le_add a8 (Nat.add_le_add a9 (Nat.add_le_add b1 (Nat.add_le_add b2 (Nat.add_le_add b3 (Nat.add_le_add b4 (Nat.add_le_add b5 (Nat.add_le_add b6 (Nat.add_le_add b7 (Nat.add_le_add b8 (Nat.le_of_eq b9)))))))))))))))))) (by decide)
theorem circle_lim {m : Circle} (h : fewC m = true) : (tCircle m).length ≤ 100000 := by
  unfold fewC few0 at h
  simp only [Bool.and_eq_true, List.all_eq_true, decide_eq_true_eq] at h
  obtain ⟨⟨⟨⟨⟨⟨⟨⟨⟨⟨⟨h1, h2⟩, h3⟩, h4⟩, h5⟩, h6⟩, h7⟩, h8⟩, h9⟩, hm⟩, ho⟩, hc⟩ := h
  have a1 := tNs_len [m.id, m.found]
  have a2 : (tT m.text).length ≤ 23 + m.text.size := by
    have hs : m.text.size = m.text.data.toList.length := by rw [Array.length_toList]; rfl
    have := itoa_len' m.text.size
    unfold tT; simp only [List.length_append, List.length_cons, List.length_nil]; omega
  have a3 := tNs_len [m.version, m.law, m.members.length]
  have a4 := tAll_lim (tx := tMember) (fun x hx => member_lim (hm x hx)) h1
  have a5 := tNs_len [m.paid.length]
  have a6 := tAll_lim (tx := tPaid) (fun x _ => paid_lim x) h2
  have a7 := tNs_len [m.bids.length]
  have a8 := tAll_lim (tx := tBid) (fun x _ => bid_lim x) h3
  have a9 := tNs_len [m.turns.length]
  have b1 := tAll_lim (tx := tI) (fun x _ => tI_len x) h4
  have b2 := tL_lim h5
  have b3 := tL_lim h6
  have b4 := tNs_len [m.op.length]
  have b5 := tAll_lim (tx := tProposal) (fun x hx => proposal_lim (ho x hx)) h7
  have b6 := tNs_len [m.claims.length]
  have b7 := tAll_lim (tx := tClaim) (fun x hx => claim_lim (hc x hx)) h8
  have b8 := tI_len m.fund
  have b9 := tF_len m.ended
  unfold tCircle; simp only [List.length_append, List.length_cons, List.length_nil] at a1 a3 a5 a7 a9 b4 b6 ⊢
  exact circ_sum a1 a2 h9 a3 a4 a5 a6 a7 a8 a9 b1 b2 b3 b4 b5 b6 b7 b8 b9
theorem lot_lim (m : Lot) : (tLot m).length ≤ 200 := by
  have a := tNs_len [m.mark, m.from_, m.to_, m.owner, m.holder, m.until_]; have b := tI_len m.spent
  unfold tLot; simp only [List.length_append, List.length_cons, List.length_nil] at *; omega
theorem void_lim (m : Void) : (tVoid m).length ≤ 200 := by
  have a := tNs_len [m.mark, m.err]
  unfold tVoid; simp only [List.length_append, List.length_cons, List.length_nil] at *; omega
theorem state_lim {s : State} (h : fewB s = true) : (tState s).length ≤ 1000000 := by
  unfold fewB fewR at h
  simp only [Bool.and_eq_true, List.all_eq_true, decide_eq_true_eq] at h
  obtain ⟨hc, ⟨⟨h1, h2⟩, h3⟩, h4⟩ := h
  rw [List.take_of_length_le (by omega)] at hc
  have a1 := tNs_len [s.day]
  have a2 := tL_lim h1
  have a3 := tNs_len [s.circles.length]
  have a4 := tAll_lim (tx := tCircle) (fun x hx => circle_lim (hc x hx)) h4
  have a5 := tNs_len [s.lots.length]
  have a6 := tAll_lim (tx := tLot) (fun x _ => lot_lim x) h3
  have a7 := tNs_len [s.voids.length]
  have a8 := tAll_lim (tx := tVoid) (fun x _ => void_lim x) h2
  unfold tState; simp only [List.length_append, List.length_cons, List.length_nil] at *; omega
end Go.Proofs.YtenmmfkgopffgaaGreatDoor
