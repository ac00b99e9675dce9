/- Part 21 of the proofs that the program's StateBack and StateBalance return true (texts Pd Xa Xb Xg joined): what its functions compute. -/
import Derived.Test.YtenmmfkgopffgaaGreatDoorMat
import Derived.Test.YtenmmfkgopffgaaGreatDoorMao
import Derived.Test.YtenmmfkgopffgaaGreatDoorMam
import Derived.Test.YtenmmfkgopffgaaGreatDoorMas
import Derived.Test.YtenmmfkgopffgaaGreatDoorMar
import Derived.Test.YtenmmfkgopffgaaGreatDoorMap
set_option linter.unusedVariables false
set_option linter.unusedSimpArgs false
namespace Go.Proofs.YtenmmfkgopffgaaGreatDoor
open Go
def szP (p : Proposal) : Prop := p.voices.length ≤ maxN
def szM (m : Member) : Prop := m.backs.length ≤ maxN
def szX (c : Claim) : Prop := c.jury.length ≤ maxN ∧ c.again.length ≤ maxN
structure szC (c : Circle) : Prop where
  text : c.text.size ≤ maxN
  members : c.members.length ≤ maxN
  paid : c.paid.length ≤ maxN
  bids : c.bids.length ≤ maxN
  turns : c.turns.length ≤ maxN
  pots : c.pots.length ≤ maxN
  out : c.out.length ≤ maxN
  op : c.op.length ≤ maxN
  claims : c.claims.length ≤ maxN
  m : ∀ x ∈ c.members, szM x
  p : ∀ x ∈ c.op, szP x
  x : ∀ x ∈ c.claims, szX x
structure szS (s : State) : Prop where
  keys : s.keys.length ≤ maxN
  circles : s.circles.length ≤ maxN
  lots : s.lots.length ≤ maxN
  voids : s.voids.length ≤ maxN
  c : ∀ x ∈ s.circles, szC x
theorem sz_of_few {s : State} (h : fewB s = true) : szS s := by
  unfold fewB fewR at h
  simp only [Bool.and_eq_true, List.all_eq_true, decide_eq_true_eq] at h
  obtain ⟨hc, ⟨⟨h1, h2⟩, h3⟩, h4⟩ := h
  rw [List.take_of_length_le (by omega)] at hc
  have hm : maxN = 4294967296 := rfl
  refine ⟨by omega, by omega, by omega, by omega, fun c hx => ?_⟩
  have h := hc c hx
  unfold fewC few0 at h
  simp only [Bool.and_eq_true, List.all_eq_true, decide_eq_true_eq] at h
  obtain ⟨⟨⟨⟨⟨⟨⟨⟨⟨⟨⟨h1, h2⟩, h3⟩, h4⟩, h5⟩, h6⟩, h7⟩, h8⟩, h9⟩, hm'⟩, ho⟩, hc'⟩ := h
  refine ⟨by omega, by omega, by omega, by omega, by omega, by omega, by omega, by omega, by omega, fun x hx => ?_, fun x hx => ?_, fun x hx => ?_⟩
  · have := of_decide_eq_true (hm' x hx); unfold szM; omega
  · have := of_decide_eq_true (ho x hx); unfold szP; omega
  · have := hc' x hx
    unfold few3 at this
    simp at this
    unfold szX; omega
theorem nn_num {n : Int} (h : numB n = true) : nn n := by unfold numB at h; simp at h; unfold nn; omega
theorem nn_mark {n : Int} (h : markB n = true) : nn n := by unfold markB at h; simp at h; unfold nn; omega
theorem nn_key {n : Int} (h : keyB n = true) : nn n := by unfold keyB at h; simp at h; unfold nn; omega
theorem nn_i64 {n : Int} (h : nn n) : i64 n := ⟨by have := h.1; omega, h.2⟩
theorem len_i64 {n : Nat} (h : n ≤ maxN) : i64 (n : Int) := by unfold maxN at h; exact ⟨by omega, by omega⟩
theorem keysB_each : ∀ (l S : List Int), keysB S l = true → ∀ k ∈ l, keyB k = true
  | [], _, _ => fun k hk => by cases hk
  | x :: l, S, h => by
    simp only [keysB, Bool.and_eq_true] at h
    intro k hk
    rcases List.mem_cons.1 hk with rfl | hk
    · exact h.1.1
    · exact keysB_each l _ h.2 k hk
theorem membersB_each : ∀ (l : List Member) (S : List Int), membersB S l = true → ∀ m ∈ l, keyB m.key = true ∧ memberB m = true
  | [], _, _ => fun k hk => by cases hk
  | x :: l, S, h => by
    simp only [membersB, Bool.and_eq_true] at h
    intro k hk
    rcases List.mem_cons.1 hk with rfl | hk
    · exact ⟨h.1.1.1, h.1.2⟩
    · exact membersB_each l _ h.2 k hk
theorem paidB_each : ∀ (l : List Paid) (S : List Int), paidB S l = true → ∀ p ∈ l, markB p.mark = true ∧ keyB p.who = true ∧ allN [p.period, p.day, p.n] = true
  | [], _, _ => fun k hk => by cases hk
  | x :: l, S, h => by
    simp only [paidB, Bool.and_eq_true] at h
    intro k hk
    rcases List.mem_cons.1 hk with rfl | hk
    · exact ⟨h.1.1.1, h.1.2⟩
    · exact paidB_each l _ h.2 k hk
theorem bidsB_each : ∀ (l : List Bid) (S : List Int), bidsB S l = true → ∀ p ∈ l, markB p.mark = true ∧ keyB p.who = true ∧ ((p.n == -1) || numB p.n) = true
  | [], _, _ => fun k hk => by cases hk
  | x :: l, S, h => by
    simp only [bidsB, Bool.and_eq_true] at h
    intro k hk
    rcases List.mem_cons.1 hk with rfl | hk
    · exact ⟨h.1.1.1, h.1.2⟩
    · exact bidsB_each l _ h.2 k hk
theorem openB_each : ∀ (l : List Proposal) (S : List Int), openB S l = true → ∀ p ∈ l, markB p.mark = true ∧ (numB p.day && decide (0 ≤ p.kind) && decide (p.kind < 21) && decide (0 ≤ p.done) && decide (p.done ≤ 2) && allV p.voices) = true
  | [], _, _ => fun k hk => by cases hk
  | x :: l, S, h => by
    rw [openB] at h
    rw [Bool.and_eq_true, Bool.and_eq_true, Bool.and_eq_true] at h
    intro k hk
    rcases List.mem_cons.1 hk with rfl | hk
    · exact ⟨h.1.1.1, h.1.2⟩
    · exact openB_each l _ h.2 k hk
theorem claimsB_each : ∀ (l : List Claim) (S : List Int), claimsB S l = true → ∀ p ∈ l, markB p.mark = true ∧ claimB p = true
  | [], _, _ => fun k hk => by cases hk
  | x :: l, S, h => by
    simp only [claimsB, Bool.and_eq_true] at h
    intro k hk
    rcases List.mem_cons.1 hk with rfl | hk
    · exact ⟨h.1.1.1, h.1.2⟩
    · exact claimsB_each l _ h.2 k hk
theorem circlesB_each : ∀ (l : List Circle) (S : List Int), circlesB S l = true → ∀ c ∈ l, circleB c = true
  | [], _, _ => fun k hk => by cases hk
  | x :: l, S, h => by
    simp only [circlesB, Bool.and_eq_true] at h
    intro k hk
    rcases List.mem_cons.1 hk with rfl | hk
    · exact h.1.1
    · exact circlesB_each l _ h.2 k hk
theorem lotsB_each : ∀ (l : List Lot) (o : Option Lot), lotsB o l = true → ∀ x ∈ l, lotB x = true
  | [], _, _ => fun k hk => by cases hk
  | x :: l, o, h => by
    have h' : lotB x = true ∧ lotsB (some x) l = true := by
      cases o with
      | none => simpa [lotsB] using h
      | some p => simp only [lotsB, Bool.and_eq_true] at h; exact ⟨h.1.1, h.2⟩
    intro k hk
    rcases List.mem_cons.1 hk with rfl | hk
    · exact h'.1
    · exact lotsB_each l _ h'.2 k hk
theorem nnl_of {l : List Int} (h : ∀ x ∈ l, nn x) : nnl l := h
theorem allN_nn {l : List Int} (h : allN l = true) : ∀ x ∈ l, nn x := fun x hx => nn_num (List.all_eq_true.1 h x hx)
theorem allK_nn {l : List Int} (h : allK l = true) : ∀ x ∈ l, nn x := fun x hx => nn_key (List.all_eq_true.1 h x hx)
theorem ok_circle {c : Circle} (h : circleB c = true) (z : szC c) : okCircle c := by
  unfold circleB at h
  simp only [Bool.and_eq_true] at h
  obtain ⟨⟨⟨⟨⟨⟨h0, hm⟩, hmid⟩, hp⟩, hb⟩, ho⟩, hc⟩ := h
  unfold circle0 at h0
  simp only [Bool.and_eq_true, decide_eq_true_eq] at h0
  obtain ⟨⟨⟨⟨⟨⟨⟨q1, q2⟩, q3⟩, q4⟩, q5⟩, q6⟩, q7⟩, q8⟩ := h0
  unfold midB at hmid
  simp only [Bool.and_eq_true] at hmid
  obtain ⟨⟨⟨⟨_, _⟩, r1⟩, r2⟩, r3⟩ := hmid
  refine ⟨?_, z.text, ⟨z.members, fun x hx => ?_⟩, ⟨z.paid, fun x hx => ?_⟩, ⟨z.bids, fun x hx => ?_⟩, ⟨z.turns, fun x hx => ?_⟩, ⟨z.pots, fun x hx => nn_i64 (allN_nn r2 x hx)⟩, ⟨z.out, fun x hx => nn_i64 (allN_nn r3 x hx)⟩, ⟨z.op, fun x hx => ?_⟩, ⟨z.claims, fun x hx => ?_⟩, ⟨by omega, by omega⟩⟩
  · simp only [nnl_cons]
    exact ⟨nn_mark q1, nn_num q3, nn_num q4, nn_mark q2, fun x hx => by cases hx⟩
  · obtain ⟨a, b⟩ := membersB_each _ _ hm x hx
    unfold memberB at b
    simp only [Bool.and_eq_true] at b
    refine ⟨?_, z.m x hx, fun y hy => nn_i64 (allK_nn b.2 y hy)⟩
    simp only [nnl_cons]
    exact ⟨nn_key a, nn_num b.1.1.1, nn_num b.1.1.2, nn_num b.1.2, fun x hx => by cases hx⟩
  · obtain ⟨a, b, d⟩ := paidB_each _ _ hp x hx
    have d := allN_nn d
    unfold okPaid
    simp only [nnl_cons]
    exact ⟨nn_mark a, nn_key b, d _ (by simp), d _ (by simp), d _ (by simp), fun x hx => by cases hx⟩
  · obtain ⟨a, b, d⟩ := bidsB_each _ _ hb x hx
    refine ⟨?_, ?_⟩
    · simp only [nnl_cons]
      exact ⟨nn_mark a, nn_key b, fun x hx => by cases hx⟩
    · rw [Bool.or_eq_true] at d
      rcases d with d | d
      · have : x.n = -1 := by simpa using d
        rw [this]; exact ⟨by omega, by omega⟩
      · exact nn_i64 (nn_num d)
  · have d : turnB x = true := List.all_eq_true.1 r1 x hx
    unfold turnB at d
    rw [Bool.or_eq_true] at d
    rcases d with d | d
    · have : x = -1 := by simpa using d
      rw [this]; exact ⟨by omega, by omega⟩
    · exact nn_i64 (nn_key d)
  · obtain ⟨a, b⟩ := openB_each _ _ ho x hx
    simp only [Bool.and_eq_true, decide_eq_true_eq] at b
    obtain ⟨⟨⟨⟨⟨b1, b2⟩, b3⟩, b4⟩, b5⟩, b6⟩ := b
    refine ⟨?_, z.p x hx, fun y hy => ?_⟩
    · simp only [nnl_cons]
      exact ⟨nn_mark a, nn_num b1, ⟨by omega, by omega⟩, ⟨by omega, by omega⟩, fun x hx => by cases hx⟩
    · have : voiceB y = true := List.all_eq_true.1 b6 y hy
      unfold voiceB at this
      simp only [Bool.and_eq_true] at this
      unfold okVoice
      simp only [nnl_cons]
      exact ⟨nn_mark this.1.1, nn_key this.1.2, nn_num this.2, fun x hx => by cases hx⟩
  · obtain ⟨a, b⟩ := claimsB_each _ _ hc x hx
    unfold claimB at b
    simp only [Bool.and_eq_true, decide_eq_true_eq] at b
    obtain ⟨⟨⟨⟨⟨⟨b1, b2⟩, b3⟩, b4⟩, b5⟩, b6⟩, b7⟩ := b
    have d := allN_nn b3
    refine ⟨?_, ⟨(z.x x hx).1, fun y hy => nn_i64 (allK_nn b4 y hy)⟩, ⟨(z.x x hx).2, fun y hy => nn_i64 (allK_nn b5 y hy)⟩⟩
    simp only [nnl_cons]
    exact ⟨nn_mark a, nn_mark b1, nn_key b2, d _ (by simp), d _ (by simp), d _ (by simp), d _ (by simp), ⟨by omega, by omega⟩, d _ (by simp), d _ (by simp), fun x hx => by cases hx⟩
theorem ok_of_right {s : State} (h : rightB s = true) (z : szS s) : okState s := by
  unfold rightB at h
  simp only [Bool.and_eq_true, decide_eq_true_eq] at h
  obtain ⟨⟨⟨⟨⟨h1, h2⟩, h3⟩, h4⟩, h5⟩, h6⟩ := h
  refine ⟨nn_num h1, ⟨z.keys, fun x hx => nn_i64 (nn_key (keysB_each _ _ h2 x hx))⟩, ⟨z.circles, fun x hx => ok_circle (circlesB_each _ _ h4 x hx) (z.c x hx)⟩, ⟨z.lots, fun x hx => ?_⟩, ⟨z.voids, fun x hx => ?_⟩⟩
  · have := lotsB_each _ _ h6 x hx
    unfold lotB at this
    simp only [Bool.and_eq_true, decide_eq_true_eq] at this
    obtain ⟨⟨⟨⟨⟨⟨⟨b1, b2⟩, b3⟩, b4⟩, b5⟩, b6⟩, b7⟩, b8⟩ := this
    refine ⟨?_, ?_⟩
    · simp only [nnl_cons]
      exact ⟨nn_mark b1, ⟨by omega, by omega⟩, ⟨by omega, by omega⟩, nn_key b5, nn_key b6, nn_num b7, fun x hx => by cases hx⟩
    · rw [Bool.or_eq_true] at b8
      rcases b8 with d | d
      · have : x.spent = -1 := by simpa using d
        rw [this]; exact ⟨by omega, by omega⟩
      · exact nn_i64 (nn_mark d)
  · have : voidB x = true := List.all_eq_true.1 h5 x hx
    unfold voidB at this
    simp only [Bool.and_eq_true, decide_eq_true_eq] at this
    unfold okVoid
    simp only [nnl_cons]
    exact ⟨nn_mark this.1.1, ⟨by omega, by omega⟩, fun x hx => by cases hx⟩
theorem read_text {s : State} (h : rightB s = true) (z : szS s) : readB (textB s) = (s, 0) := by
  have ho := ok_of_right h z
  have hi := inv_state ho []
  rw [List.append_nil] at hi
  unfold readB textB
  rw [h]
  simp only [cond_true]
  rw [hi]
  simp only [h, textB, cond_true, beq_self_eq_true]
  rfl
theorem text_ne {s : State} (h : rightB s = true) (z : szS s) : textB s ≠ [] := by
  unfold textB
  rw [h]
  exact ne_state (ok_of_right h z)
theorem text_inj {a b : State} (h : rightB a = true) (za : szS a) (zb : szS b) (he : textB b = textB a) : b = a := by
  have hb : rightB b = true := by
    cases hb : rightB b with
    | true => rfl
    | false =>
      have : textB b = [] := by unfold textB; rw [hb]; rfl
      exact absurd (he ▸ this) (text_ne h za)
  have h1 := read_text h za
  have h2 := read_text hb zb
  rw [he, h1] at h2
  exact (Prod.mk.inj h2).1.symm
theorem read_ok {t : Str} (h : (readB t).2 = 0) : rightB (readB t).1 = true ∧ textB (readB t).1 = t := by
  unfold readB at h ⊢
  generalize rdState ⟨t, false⟩ = p at *
  obtain ⟨s, r⟩ := p
  simp only at h ⊢
  cases hc : !r.bad && r.rest.isEmpty && (rightB s && (textB s == t)) with
  | false => rw [hc] at h; simp at h
  | true =>
    simp only [Bool.and_eq_true] at hc
    exact ⟨hc.2.1, by simpa using hc.2.2⟩
theorem read_bad {t : Str} (h : (readB t).2 ≠ 0) : readB t = (zeroS, 2) := by
  unfold readB at h ⊢
  generalize rdState ⟨t, false⟩ = p at *
  obtain ⟨s, r⟩ := p
  simp only at h ⊢
  cases hc : !r.bad && r.rest.isEmpty && (rightB s && (textB s == t)) with
  | false => rfl
  | true => rw [hc] at h; exact absurd rfl h
end Go.Proofs.YtenmmfkgopffgaaGreatDoor

set_option maxRecDepth 4000
namespace Go.Proofs.YtenmmfkgopffgaaGreatDoor
open Go

abbrev sv (l : Str) : Value := .string ⟨l.toArray⟩
theorem ba_app (a b : Str) : (⟨a.toArray⟩ : ByteArray) ++ ⟨b.toArray⟩ = ⟨(a ++ b).toArray⟩ := by
  have : ((⟨a.toArray⟩ : ByteArray) ++ ⟨b.toArray⟩).data = (a ++ b).toArray := by
    rw [ByteArray.data_append]; simp
  cases h : (⟨a.toArray⟩ : ByteArray) ++ ⟨b.toArray⟩ with
  | mk d => rw [h] at this; simp only at this; rw [this]
theorem ba_size (a : Str) : (⟨a.toArray⟩ : ByteArray).size = a.length := by show a.toArray.size = _; simp
theorem ba_eta (s : ByteArray) : s = ⟨s.data.toList.toArray⟩ := by cases s; simp
theorem ba_len (s : ByteArray) : s.size = s.data.toList.length := by rw [Array.length_toList]; rfl
theorem int_q {n : Int} {u : Mem} (g : GM u) (h : i64 n) : QFn Tryz.prog 26 [ic n] u (sv (tI n)) := by
  have hl := itoa_len h
  refine fn26 fun cx hu => ?_
  refine W_seq (W_reg ?_)
  simp only [r26_0, sx, Nat.reduceBEq, Nat.reduceAdd, Nat.reduceLeDiff, reduceCtorEq]
  refine W_seq (W_reg ?_)
  simp only [r26_1, r26_1a, r26_1b, sx, Nat.reduceBEq, Nat.reduceAdd, Nat.reduceLeDiff, reduceCtorEq]
  refine ⟨_, itoa_q g h, ?_⟩
  simp only [ba_app, ba_size, sx, Nat.reduceBEq, Nat.reduceAdd, Nat.reduceLeDiff, reduceCtorEq]
  refine ⟨by omega, ?_⟩
  exact W_ret (RetQ.outQ hu (mle_refl _) rfl trivial ⟨rfl, rfl, rfl⟩)
theorem num_q {n : Int} {u : Mem} (g : GM u) (h : i64 n) : QFn Tryz.prog 65 [ic n] u (sv (tN n)) := by
  refine fn65 fun cx hu => ?_
  refine W_seq (W_reg ?_)
  simp only [r65_0, sx, Nat.reduceBEq, Nat.reduceAdd, Nat.reduceLeDiff, reduceCtorEq]
  refine W_seq ?_
  refine W_seq (W_reg ?_)
  simp only [r65_1, sx, Nat.reduceBEq, Nat.reduceAdd, Nat.reduceLeDiff, reduceCtorEq]
  refine W_cnd rfl (fun hb => ?_) (fun hb => W_skip ?_)
  · refine W_seq (W_reg ?_)
    simp only [r65_2, sx, Nat.reduceBEq, Nat.reduceAdd, Nat.reduceLeDiff, reduceCtorEq]
    refine W_ret (RetQ.outQ hu (mle_refl _) rfl trivial ⟨?_, rfl, rfl⟩)
    unfold tN; rw [hb]; rfl
  · refine W_seq (W_reg ?_)
    simp only [r65_3, r65_3a, r65_3b, sx, Nat.reduceBEq, Nat.reduceAdd, Nat.reduceLeDiff, reduceCtorEq]
    refine ⟨_, int_q g h, ?_⟩
    refine W_ret (RetQ.outQ hu (mle_refl _) rfl trivial ⟨?_, rfl, rfl⟩)
    unfold tN; rw [hb]; rfl
theorem text_q {s : ByteArray} {u : Mem} (g : GM u) (h : s.size ≤ maxN) : QFn Tryz.prog 68 [.string s] u (sv (tT s)) := by
  unfold maxN at h
  have h6 : i64 (s.size : Int) := ⟨by omega, by omega⟩
  have hl := itoa_len h6
  refine fn68 fun cx hu => ?_
  refine W_seq (W_reg ?_)
  simp only [r68_0, sx, Nat.reduceBEq, Nat.reduceAdd, Nat.reduceLeDiff, reduceCtorEq]
  refine W_seq (W_reg ?_)
  simp only [r68_1, r68_1a, r68_1b, sx, Nat.reduceBEq, Nat.reduceAdd, Nat.reduceLeDiff, reduceCtorEq]
  refine ⟨_, itoa_q g h6, ?_⟩
  rw [ba_eta s]
  simp only [ba_app, ba_size, sx, Nat.reduceBEq, Nat.reduceAdd, Nat.reduceLeDiff, reduceCtorEq]
  refine ⟨by rw [← ba_len]; omega, by rw [List.length_append, ← ba_len]; simp; omega, by rw [List.length_append, List.length_append, ← ba_len]; simp; omega, ?_⟩
  refine W_ret (RetQ.outQ hu (mle_refl _) rfl trivial ⟨?_, rfl, rfl⟩)
  unfold tT
  rw [ba_size]
  simp
theorem lies76 : liesAt Tryz.prog Tryz.prog.depth 76 (2 / Tryz.prog.cellsOf 76) 0 76 1 = true := by kernel_rfl
theorem lies78 : liesAt Tryz.prog Tryz.prog.depth 78 (2 / Tryz.prog.cellsOf 78) 0 76 1 = true := by kernel_rfl
theorem W_bld {P : Program} {D : Nat → Array Oper → List Nat → List I0 → List Nat → Bool} {n : Nat} {cx : Ctx} {Q : PQ} {e : Env} {bx : List Box} {own : List HP} {u : Mem} {s : SC} {nm blk T : Nat}
    (h : W P D n cx s Q e bx (Bld T blk [] :: own) u) : W P D n cx s Q e (⟨nm, blk, [.pointer none, .slice none 0 0], T⟩ :: bx) own u := by
  refine W_gh (fun w i => ?_) h
  have i1 : Inv cx (Box.hp ⟨nm, blk, [.pointer none, .slice none 0 0], T⟩ :: (bx.map Box.hp ++ own)) u w := i
  refine (i1.conseq (L' := Bld T blk [] :: (bx.map Box.hp ++ own)) ?_).perm (perm_own (List.Perm.refl _)).symm
  rintro h ⟨h1, h2, sp, hb, s⟩
  exact ⟨h1, h2, sp, Bld.new T blk hb, s⟩
theorem take_tAll {α : Type} {tx : α → Str} {l : List α} {i : Nat} (h : i < l.length) : tAll tx (l.take (i + 1)) = tAll tx (l.take i) ++ tx l[i] := by
  rw [List.take_add_one, List.getElem?_eq_getElem h, tAll_app]
  simp [tAll]
theorem tAll_take_le {α : Type} {tx : α → Str} (l : List α) (i : Nat) : (tAll tx (l.take i)).length ≤ (tAll tx l).length := by
  conv => rhs; rw [← List.take_append_drop i l]
  rw [tAll_app, List.length_append]; omega
theorem list_q {v : Value} {xs : List Int} {u : Mem} (g : GM u) (hv : Ints (MU u) v xs) (hx : ∀ x ∈ xs, i64 x) : QFn Tryz.prog 67 [v, .func (.func 26) #[] #[]] u (sv (tL xs)) := by
  obtain ⟨a, c, rfl, hmax, hcap, hrow, hlen⟩ := hv
  simp only [List.length_map] at hmax hcap
  have hm := hmax
  unfold maxN at hm
  have h6 : i64 (xs.length : Int) := ⟨by omega, by omega⟩
  have hl := itoa_len h6
  have htot : (tAll tI xs).length ≤ 22 * 4294967296 := tAll_lim (fun x _ => tI_len x) hm
  refine fn67 fun cx hu => ?_
  refine W_seq (W_reg ?_)
  simp only [r67_0, sx, Nat.reduceBEq, Nat.reduceAdd, Nat.reduceLeDiff, reduceCtorEq]
  refine W_seq (W_reg ?_)
  simp only [r67_1, sx, Nat.reduceBEq, Nat.reduceAdd, Nat.reduceLeDiff, reduceCtorEq]
  intro b5
  refine W_bld ?_
  refine W_seq (W_reg ?_)
  simp only [r67_2, r67_2a, r67_2b, r67_2c, sx, Nat.reduceBEq, Nat.reduceAdd, Nat.reduceLeDiff, reduceCtorEq]
  rw [List.length_map]
  refine ⟨_, itoa_q g h6, ?_⟩
  simp only [ba_app, ba_size, sx, Nat.reduceBEq, Nat.reduceAdd, Nat.reduceLeDiff, reduceCtorEq]
  refine ⟨by omega, ?_⟩
  refine CallW.own (rest := []) (writeString (by decide) lies76 _ _ _ _ (by simp; omega)) (List.Perm.refl _) ?_
  rintro v own' u1 ⟨rfl, rfl, rfl⟩ _
  simp only [sx, Nat.reduceBEq, Nat.reduceAdd, Nat.reduceLeDiff, reduceCtorEq]
  refine W_seq (W_seq ?_)
  refine W_reg ?_
  simp only [r67_3, sx, Nat.reduceBEq, Nat.reduceAdd, Nat.reduceLeDiff, reduceCtorEq]
  refine W_blk (W_loop (fun m e bx own u' => ∃ i, i ≤ xs.length ∧ m = xs.length - i ∧ St [(1, .func (.func 26) #[] #[]), (5, .pointer (some ⟨b5, 0, none⟩)), (13, .slice a xs.length c), (14, ic xs.length), (15, ic i)] [] (fun own u' => u1 = u' ∧ own = [Bld 76 b5 ((itoaB xs.length ++ [91]) ++ tAll tI (xs.take i))]) e bx own u') (m := xs.length) ⟨0, by omega, by omega, ?_⟩ ?_)
  · exact .mk ⟨rfl, by simp [tAll]⟩
  rintro m e bx own u' ⟨i, hi, rfl, ⟨rfl, rfl⟩⟩
  refine W_seq (W_reg ?_)
  simp only [r67_4, sx, Nat.reduceBEq, Nat.reduceAdd, Nat.reduceLeDiff, reduceCtorEq]
  refine W_seq (W_cnd rfl (fun hc => W_skip ?_) (fun hc => W_exit ?_))
  · have hlt : i < xs.length := by simpa using hc
    obtain ⟨o, off, rfl, hr⟩ := hrow (map_ne hlt)
    have hcell := SlC_at hr hlen (by simpa using hlt)
    rw [List.getElem_map] at hcell
    have hle := tAll_take_le (tx := tI) xs (i + 1)
    rw [take_tAll hlt] at hle
    simp only [List.length_append] at hle
    refine W_seq (W_blk ?_)
    refine W_seq (W_reg ?_)
    simp only [r67_5, r67_5a, r67_5b, sx, Nat.reduceBEq, Nat.reduceAdd, Nat.reduceLeDiff, reduceCtorEq]
    refine ⟨by omega, i1 xs[i], hcell.lrow, rfl, ?_⟩
    simp only [sx, Nat.reduceBEq, Nat.reduceAdd, Nat.reduceLeDiff, reduceCtorEq]
    refine W_reg ?_
    simp only [r67_6, r67_6a, r67_6b, sx, Nat.reduceBEq, Nat.reduceAdd, Nat.reduceLeDiff, reduceCtorEq]
    refine CallW.q (int_q g (hx _ (List.getElem_mem hlt))) ?_
    refine CallW.own (rest := []) (writeString (by decide) lies76 _ _ _ _ (by simp; omega)) (List.Perm.refl _) ?_
    rintro v own' u1 ⟨rfl, rfl, rfl⟩ _
    refine W_reg ?_
    simp only [r67_7, sx, Nat.reduceBEq, Nat.reduceAdd, Nat.reduceLeDiff, reduceCtorEq]
    rw [wrapS hlt hmax]
    exact ⟨_, by omega, i + 1, by omega, rfl, .mk ⟨rfl, by rw [take_tAll hlt]; simp⟩⟩
  · have hge : ¬ i < xs.length := by simpa using hc
    refine W_seq (W_reg ?_)
    simp only [r67_8, r67_8a, sx, Nat.reduceBEq, Nat.reduceAdd, Nat.reduceLeDiff, reduceCtorEq]
    refine CallW.own (rest := []) (builderString (T := 76) _ _ _ (by simp)) (List.Perm.refl _) ?_
    rintro v own' u1 ⟨rfl, rfl, rfl⟩ _
    simp only [ba_app, ba_size, sx, Nat.reduceBEq, Nat.reduceAdd, Nat.reduceLeDiff, reduceCtorEq]
    rw [List.take_of_length_le (by omega)]
    refine ⟨by simp; omega, ?_⟩
    refine W_ret (RetQ.outQ hu (mle_refl _) rfl trivial ⟨?_, rfl, rfl⟩)
    unfold tL
    rw [flatMap_tAll]
    simp
theorem nums_q {v : Value} {xs : List Int} {u : Mem} (g : GM u) (hv : Ints (MU u) v xs) (hx : ∀ x ∈ xs, i64 x) : QFn Tryz.prog 24 [v] u (sv (tL xs)) := by
  refine fn24 fun cx hu => ?_
  refine W_seq (W_reg ?_)
  simp only [r24_0, sx, Nat.reduceBEq, Nat.reduceAdd, Nat.reduceLeDiff, reduceCtorEq]
  refine W_seq (W_reg ?_)
  simp only [r24_1, r24_1a, r24_1b, sx, Nat.reduceBEq, Nat.reduceAdd, Nat.reduceLeDiff, reduceCtorEq]
  refine CallW.q (list_q g hv hx) ?_
  exact W_ret (RetQ.outQ hu (mle_refl _) rfl trivial ⟨rfl, rfl, rfl⟩)
end Go.Proofs.YtenmmfkgopffgaaGreatDoor

set_option maxRecDepth 4000
namespace Go.Proofs.YtenmmfkgopffgaaGreatDoor
open Go

theorem Sl.formL {α : Type} {k : Nat} {R : MP → List Value → α → Prop} {M : MP} {v : Value} {xs : List α} (h : Sl k R M v xs) : ∃ a c, v = .slice a xs.length c ∧ xs.length ≤ maxN := by
  obtain ⟨css, ⟨a, c, rfl, hm, _⟩, hall⟩ := h
  exact ⟨a, c, by rw [hall.len], by rw [← hall.len]; exact hm⟩
theorem SlF.formL {α : Type} {k : Nat} {f : α → List Value} {M : MP} {v : Value} {xs : List α} (h : SlF k f M v xs) : ∃ a c, v = .slice a xs.length c ∧ xs.length ≤ maxN := by
  obtain ⟨a, c, rfl, hm, _⟩ := h
  rw [List.length_map] at hm ⊢
  exact ⟨a, c, rfl, hm⟩
def big : Nat := 140737488355328
def WQ (T R : Str) (b : Nat) (u : Mem) (v : Value) (own' : List HP) (u' : Mem) : Prop := u' = u ∧ ∃ L', own' = [Bld 78 b L'] ∧ L' ++ R = T
theorem W_less {P : Program} {D : Nat → Array Oper → List Nat → List I0 → List Nat → Bool} {n : Nat} {cx : Ctx} {Q : PQ} {e : Env} {bx : List Box} {own : List HP} {u u2 : Mem} {s : SC}
    (hc : cx.u = u) (hle : mle u u2) (h : W P D n cx s Q e bx own u) : W P D n cx s Q e bx own u2 := W_gh (fun w i => i.less hle (by rw [hc]; exact mle_refl _)) h
theorem CallWD.own {P : Program} {f : FuncId} {vs : List Value} {R : Value → List Box → List HP → Mem → Prop} {bx : List Box} {own ownf rest : List HP} {u : Mem} {Q : Value → List HP → Mem → Prop} (h : Fn P f vs ownf u Q) (hp : List.Perm own (ownf ++ rest)) (r : ∀ v own' u', Q v own' u' → mle u u' → R v bx (own' ++ rest) u') : CallWD P f vs R bx own u :=
  ⟨ownf, rest, hp, Q, h, r⟩
theorem wstr {b : Nat} {L s R T : Str} {u : Mem} (hT : T.length ≤ big) (hL : L ++ (s ++ R) = T) : Fn Tryz.prog 23 [.pointer (some ⟨b, 0, none⟩), sv s] [Bld 78 b L] u (WQ T R b u) := by
  have := congrArg List.length hL
  simp only [List.length_append] at this
  unfold big at hT
  refine (writeString (by decide) lies78 b L s u (by omega)).mono ?_
  rintro v own' u' ⟨rfl, rfl, rfl⟩
  exact ⟨rfl, _, rfl, by rw [List.append_assoc]; exact hL⟩
theorem wnum {b : Nat} {L R T : Str} {v : Value} {xs : List Int} {u : Mem} (g : GM u) (hv : Ints (MU u) v xs) (hx : ∀ x ∈ xs, i64 x) (hT : T.length ≤ big) (hL : L ++ (tNs xs ++ R) = T) : Fn Tryz.prog 22 [.pointer (some ⟨b, 0, none⟩), v] [Bld 78 b L] u (WQ T R b u) := by
  obtain ⟨a, c, rfl, hmax, hcap, hrow, hlen⟩ := hv
  simp only [List.length_map] at hmax hcap
  rw [tNs_eq] at hL
  refine fn22 fun cx hu => ?_
  refine W_seq (W_reg ?_)
  simp only [r22_0, sx, Nat.reduceBEq, Nat.reduceAdd, Nat.reduceLeDiff, reduceCtorEq]
  refine W_blk (W_loop (fun m e bx own u' => ∃ i, i ≤ xs.length ∧ m = xs.length - i ∧ St [(0, .pointer (some ⟨b, 0, none⟩)), (6, .slice a xs.length c), (7, ic xs.length), (8, ic i)] [] (fun own u' => u = u' ∧ ∃ L', own = [Bld 78 b L'] ∧ L' ++ (tAll tN (xs.drop i) ++ R) = T) e bx own u') (m := xs.length) ⟨0, by omega, by omega, ?_⟩ ?_)
  · rw [List.length_map]; exact .mk ⟨rfl, L, rfl, hL⟩
  clear hL
  rintro m e bx own u' ⟨i, hi, rfl, ⟨rfl, L, rfl, hL⟩⟩
  refine W_seq (W_reg ?_)
  simp only [r22_1, sx, Nat.reduceBEq, Nat.reduceAdd, Nat.reduceLeDiff, reduceCtorEq]
  refine W_seq (W_cnd rfl (fun hc => W_skip ?_) (fun hc => W_exit ?_))
  · have hlt : i < xs.length := by simpa using hc
    obtain ⟨o, off, rfl, hr⟩ := hrow (map_ne hlt)
    have hcell := SlC_at hr hlen (by simpa using hlt)
    rw [List.getElem_map] at hcell
    rw [List.drop_eq_getElem_cons hlt, tAll, List.append_assoc] at hL
    refine W_seq (W_blk ?_)
    refine W_seq (W_reg ?_)
    simp only [r22_2, r22_2a, r22_2b, sx, Nat.reduceBEq, Nat.reduceAdd, Nat.reduceLeDiff, reduceCtorEq]
    refine ⟨by omega, i1 xs[i], hcell.lrow, rfl, ?_⟩
    simp only [sx, Nat.reduceBEq, Nat.reduceAdd, Nat.reduceLeDiff, reduceCtorEq]
    refine W_drw (drawOK mixedP) ?_
    simp only [WSD, A.wpD, r22_3, r22_3a, r22_3b, sx, Nat.reduceBEq, Nat.reduceAdd, Nat.reduceLeDiff, reduceCtorEq]
    refine ⟨_, num_q g (hx _ (List.getElem_mem hlt)), ?_⟩
    refine CallWD.own (rest := []) (wstr hT hL) (List.Perm.refl _) ?_
    clear hL
    rintro v own' u1 ⟨rfl, L, rfl, hL⟩ _
    simp only [sx, Nat.reduceBEq, Nat.reduceAdd, Nat.reduceLeDiff, reduceCtorEq]
    refine W_reg ?_
    simp only [r22_4, sx, Nat.reduceBEq, Nat.reduceAdd, Nat.reduceLeDiff, reduceCtorEq]
    rw [wrapS hlt hmax]
    exact ⟨_, by omega, i + 1, by omega, rfl, .mk ⟨rfl, L, rfl, hL⟩⟩
  · have hge : ¬ i < xs.length := by simpa using hc
    rw [List.drop_eq_nil_of_le (by omega), tAll, List.nil_append] at hL
    exact RetQ.out rfl trivial ⟨rfl, L, rfl, hL⟩
theorem wflag {b : Nat} {L R T : Str} {f : Bool} {u : Mem} (g : GM u) (hT : T.length ≤ big) (hL : L ++ (tF f ++ R) = T) : Fn Tryz.prog 69 [.pointer (some ⟨b, 0, none⟩), .bool f] [Bld 78 b L] u (WQ T R b u) := by
  have e : tF f = tNs [bif f then 1 else 0] := by simp [tF, tNs]
  rw [e] at hL
  refine fn69 fun cx hu => ?_
  refine W_seq (W_reg ?_)
  simp only [r69_0, sx, Nat.reduceBEq, Nat.reduceAdd, Nat.reduceLeDiff, reduceCtorEq]
  refine W_cnd rfl (fun hb => ?_) (fun hb => ?_)
  · subst hb
    refine W_reg ?_
    simp only [r69_1, r69_1a, r69_1b, sx, Nat.reduceBEq, Nat.reduceAdd, Nat.reduceLeDiff, reduceCtorEq]
    refine .inl ⟨by simp [lenAll, vcells], fun blk u2 hle2 hu2 => ?_⟩
    refine CallW.own (rest := []) (wnum (g.mono hle2) (ints_new (xs := [1]) (by simp [maxN]) hu2) (by simp [i64]) hT hL) (List.Perm.refl _) ?_
    rintro v own' u3 ⟨rfl, L', rfl, hL'⟩ _
    exact RetQ.outU hu hle2 rfl trivial ⟨rfl, L', rfl, hL'⟩
  · subst hb
    refine W_reg ?_
    simp only [r69_2, r69_2a, r69_2b, sx, Nat.reduceBEq, Nat.reduceAdd, Nat.reduceLeDiff, reduceCtorEq]
    refine .inl ⟨by simp [lenAll, vcells], fun blk u2 hle2 hu2 => ?_⟩
    refine CallW.own (rest := []) (wnum (g.mono hle2) (ints_new (xs := [0]) (by simp [maxN]) hu2) (by simp [i64]) hT hL) (List.Perm.refl _) ?_
    rintro v own' u3 ⟨rfl, L', rfl, hL'⟩ _
    exact RetQ.outU hu hle2 rfl trivial ⟨rfl, L', rfl, hL'⟩
end Go.Proofs.YtenmmfkgopffgaaGreatDoor

set_option maxRecDepth 4000
namespace Go.Proofs.YtenmmfkgopffgaaGreatDoor
open Go

def RdB (b : Nat) (r : Rd) : HP := Blk b (.cells #[sv r.rest, .bool r.bad] 129 (0, 0))
def rbox (b : Nat) (r : Rd) : Box := ⟨0, b, [sv r.rest, .bool r.bad], 129⟩
theorem ba_extract (l : Str) (a b : Nat) : (⟨l.toArray⟩ : ByteArray).extract a b = ⟨((l.drop a).take (b - a)).toArray⟩ := by
  have : ((⟨l.toArray⟩ : ByteArray).extract a b).data = ((l.drop a).take (b - a)).toArray := by
    rw [ByteArray.data_extract]; simp
  cases h : (⟨l.toArray⟩ : ByteArray).extract a b with
  | mk d => rw [h] at this; simp only at this; rw [this]
theorem ba_list (l : Str) : (⟨l.toArray⟩ : ByteArray).toList = l := by rw [ByteArray.toList_eq]
theorem indexByte_lt (e : UInt8) (l : Str) (h : 0 ≤ Lib.indexByte l e) : (Lib.indexByte l e).toNat < l.length := by
  have := congrArg List.length (indexByte_spec e l h)
  simp only [List.length_append, List.length_cons, List.length_take, List.length_drop] at this
  omega
theorem W_rd {P : Program} {D : Nat → Array Oper → List Nat → List I0 → List Nat → Bool} {n : Nat} {cx : Ctx} {Q : PQ} {e : Env} {own : List HP} {u : Mem} {s : SC} {b : Nat} {r : Rd}
    (h : W P D n cx s Q e [⟨0, b, [sv r.rest, .bool r.bad], 129⟩] own u) : W P D n cx s Q e [] (RdB b r :: own) u := W_gh (fun w i => i) h
theorem fail_c (b : Nat) (r : Rd) (u : Mem) : Fn Tryz.prog 113 [.pointer (some ⟨b, 0, none⟩)] [RdB b r] u fun v own' u' => own' = [RdB b rdFail] ∧ u' = u := by
  refine fn113 fun cx hu => W_rd ?_
  refine W_reg ?_
  simp only [r113_0, r113_0a, r113_0b, r113_0c, sx, Nat.reduceBEq, Nat.reduceAdd, Nat.reduceLeDiff, reduceCtorEq]
  exact RetQ.outG rfl trivial (fun w i => i) ⟨rfl, rfl⟩
theorem CallW.rd {P : Program} {f : FuncId} {vs : List Value} {R : Value → List Box → List HP → Mem → Prop} {b : Nat} {r : Rd} {own : List HP} {u : Mem} {Q : Value → List HP → Mem → Prop} (h : Fn P f vs [RdB b r] u Q)
    (k : ∀ v own' u', Q v own' u' → mle u u' → ∃ r' os, own' = RdB b r' :: os ∧ R v [⟨0, b, [sv r'.rest, .bool r'.bad], 129⟩] (os ++ own) u') : CallW P f vs R [⟨0, b, [sv r.rest, .bool r.bad], 129⟩] own u := by
  refine ⟨[RdB b r], own, u, fun cx w i => i, Q, h, fun v own' u' q l => ?_⟩
  obtain ⟨r', os, rfl, hr⟩ := k v own' u' q l
  exact ⟨[⟨0, b, [sv r'.rest, .bool r'.bad], 129⟩], os ++ own, u', fun cx w i => i, hr⟩
theorem number_c {b : Nat} {r : Rd} {e : UInt8} {least : Int} {u : Mem} (g : GM u) (hr : r.rest.length ≤ maxN) : Fn Tryz.prog 71 [.pointer (some ⟨b, 0, none⟩), .int .u8 e.toNat, ic least] [RdB b r] u fun v own' u' => v = ic (rdNumber e least r).1 ∧ own' = [RdB b (rdNumber e least r).2] ∧ u' = u := by
  unfold maxN at hr
  refine fn71 fun cx hu => W_rd ?_
  refine W_seq (W_reg ?_)
  simp only [r71_0, sx, Nat.reduceBEq, Nat.reduceAdd, Nat.reduceLeDiff, reduceCtorEq]
  refine W_seq (W_drw (drawOK mixedP) ?_)
  simp only [WSD, A.wpD, r71_1, bnd, ba_size, ba_extract, sx, Nat.reduceBEq, Nat.reduceAdd, Nat.reduceLeDiff, reduceCtorEq]
  have ht : List.take ((if (21 : Int) < ↑(List.length r.rest) then (21 : Int) else ↑(List.length r.rest)).toNat - 0) r.rest = r.rest.take 21 := by
    split
    · rfl
    · rw [List.take_of_length_le (by omega), List.take_of_length_le (by omega)]
  rw [ht]
  refine ⟨⟨by omega, by split <;> omega, by split <;> omega⟩, ?_⟩
  refine W_seq (W_reg ?_)
  simp only [r71_2, r71_2a, r71_2b, sx, Nat.reduceBEq, Nat.reduceAdd, Nat.reduceLeDiff, reduceCtorEq]
  refine CallW.q (indexByte_q _ _ _) ?_
  simp only [sx, Nat.reduceBEq, Nat.reduceAdd, Nat.reduceLeDiff, reduceCtorEq]
  unfold rdNumber
  simp only
  have hhl : (r.rest.take 21).length ≤ 21 := by rw [List.length_take]; omega
  have hhr : (r.rest.take 21).length ≤ r.rest.length := by rw [List.length_take]; omega
  have hlt := indexByte_lt e (r.rest.take 21)
  have hge := Lib.indexByte_ge (r.rest.take 21) e
  generalize r.rest.take 21 = head at *
  generalize Lib.indexByte head e = k at *
  refine W_seq ?_
  refine W_seq (W_reg ?_)
  simp only [r71_3, sx, Nat.reduceBEq, Nat.reduceAdd, Nat.reduceLeDiff, reduceCtorEq]
  refine W_cnd rfl (fun hb => ?_) (fun hb => W_skip ?_)
  · have hk : k < 0 := by simpa using hb
    refine W_seq (W_reg ?_)
    simp only [r71_4, r71_4a, sx, Nat.reduceBEq, Nat.reduceAdd, Nat.reduceLeDiff, reduceCtorEq]
    refine CallW.rd (fail_c b r u) ?_
    rintro v own' u' ⟨rfl, rfl⟩ _
    refine ⟨rdFail, [], rfl, ?_⟩
    refine W_seq (W_reg ?_)
    simp only [r71_5, sx, Nat.reduceBEq, Nat.reduceAdd, Nat.reduceLeDiff, reduceCtorEq]
    rw [if_pos hk]
    exact W_ret (RetQ.outG rfl trivial (fun w i => i) ⟨rfl, rfl, rfl⟩)
  have hk : 0 ≤ k := by
    have : ¬ k < 0 := by simpa using hb
    omega
  have hkl := hlt hk
  rw [if_neg (by omega)]
  refine W_seq (W_reg ?_)
  simp only [r71_6, r71_6a, r71_6b, bnd, ba_size, ba_extract, sx, Nat.reduceBEq, Nat.reduceAdd, Nat.reduceLeDiff, reduceCtorEq]
  refine ⟨⟨by omega, by omega, by omega⟩, ?_⟩
  rw [Nat.sub_zero]
  have hkl2 : (head.take k.toNat).length = k.toNat := by rw [List.length_take]; omega
  refine CallW.u (atoi_c (s := ⟨(head.take k.toNat).toArray⟩) g (by rw [ba_size]; omega)) ?_
  rintro v own' u' ⟨hat, rfl, rfl⟩ _
  have hat : (match Lib.atoiAll (head.take k.toNat) with
    | .ok n => v = .tuple #[ic n, .nilIface]
    | _ => ∃ n T q, v = .tuple #[ic n, .iface T q]) := hat
  have fin : ∀ (e : Env) {Q : Value → List HP → Mem → Prop}, Q (ic 0) [RdB b rdFail] u' → lk e 0 = some (.pointer (some ⟨b, 0, none⟩)) → lk e 50 = some (.bool true) → W Tryz.prog (chkD Tryz.prog) Tryz.f71.ntmps cx k71_6 (thenQ (fun e bx own u => W Tryz.prog (chkD Tryz.prog) Tryz.f71.ntmps cx k71_9 (RetQ cx [.t 6] Q) e bx own u) (RetQ cx [.t 6] Q)) e [⟨0, b, [sv r.rest, .bool r.bad], 129⟩] [] u' := by
    intro e Q hq h0 h50
    refine W_cnd h50 (fun hb => ?_) (fun hb => by cases hb)
    refine W_seq (W_reg ?_)
    simp only [r71_8, r71_8a, h0, sx, Nat.reduceBEq, Nat.reduceAdd, Nat.reduceLeDiff, reduceCtorEq]
    refine CallW.rd (fail_c b r u') ?_
    rintro v own' u2 ⟨rfl, rfl⟩ _
    refine ⟨rdFail, [], rfl, ?_⟩
    refine W_seq (W_reg ?_)
    simp only [r71_9, sx, Nat.reduceBEq, Nat.reduceAdd, Nat.reduceLeDiff, reduceCtorEq]
    exact W_ret (RetQ.outG rfl trivial (fun w i => i) hq)
  cases ha : Lib.atoiAll (head.take k.toNat) with
  | ok n =>
    rw [ha] at hat
    obtain rfl := hat
    have hi : i64 n := Lib.atoiAll_bounds ha
    simp only [sx, Nat.reduceBEq, Nat.reduceAdd, Nat.reduceLeDiff, reduceCtorEq]
    refine W_seq ?_
    refine W_seq (W_drw (drawOK mixedP) ?_)
    simp only [WSD, A.wpD, r71_7, r71_7a, r71_7b, bnd, ba_size, ba_extract, ba_list, sx, Nat.reduceBEq, Nat.reduceAdd, Nat.reduceLeDiff, reduceCtorEq]
    refine ⟨_, itoa_q g hi, ?_⟩
    simp only [WSD, A.wpD, ba_size, ba_extract, ba_list, Nat.sub_zero, sx, Nat.reduceBEq, Nat.reduceAdd, Nat.reduceLeDiff, reduceCtorEq]
    refine ⟨⟨by omega, by omega, by omega⟩, ?_⟩
    cases hc : (itoaB n == List.take k.toNat head) with
    | false =>
      simp only [Bool.false_and, cond_false, Bool.not_false, cond_true]
      exact fin _ ⟨rfl, rfl, rfl⟩ rfl rfl
    | true =>
      by_cases hn : n < least
      · have h2 : decide (least ≤ n) = false := decide_eq_false (by omega)
        simp only [h2, hn, decide_true, Bool.and_false, cond_false, Bool.not_true]
        exact fin _ ⟨rfl, rfl, rfl⟩ rfl rfl
      · have h2 : decide (least ≤ n) = true := decide_eq_true (by omega)
        simp only [h2, hn, decide_false, Bool.and_true, cond_true, cond_false, Bool.not_true]
        refine W_cnd rfl (fun hb => by cases hb) (fun hb => W_skip ?_)
        refine W_seq (W_reg ?_)
        simp only [r71_10, r71_10a, bnd, ba_size, ba_extract, sx, Nat.reduceBEq, Nat.reduceAdd, Nat.reduceLeDiff, reduceCtorEq]
        rw [wrapI (by omega) (by omega)]
        have e1 : (k + 1).toNat = k.toNat + 1 := by omega
        simp only [e1, Int.toNat_natCast]
        refine ⟨⟨by omega, by omega⟩, ?_⟩
        have e2 : List.take (r.rest.length - (k.toNat + 1)) (List.drop (k.toNat + 1) r.rest) = List.drop (k.toNat + 1) r.rest := List.take_of_length_le (by rw [List.length_drop]; omega)
        rw [e2]
        refine W_seq (W_reg ?_)
        simp only [r71_11, sx, Nat.reduceBEq, Nat.reduceAdd, Nat.reduceLeDiff, reduceCtorEq]
        exact W_ret (RetQ.outG rfl trivial (fun w i => i) ⟨rfl, rfl, rfl⟩)
  | range =>
    rw [ha] at hat
    obtain ⟨n, T, q, rfl⟩ := hat
    simp only [sx, Nat.reduceBEq, Nat.reduceAdd, Nat.reduceLeDiff, reduceCtorEq]
    refine W_seq ?_
    refine W_seq (W_drw (drawOK mixedP) ?_)
    simp only [WSD, A.wpD, r71_7, r71_7a, r71_7b, bnd, ba_size, ba_extract, ba_list, sx, Nat.reduceBEq, Nat.reduceAdd, Nat.reduceLeDiff, reduceCtorEq]
    refine ⟨sv [], ?_⟩
    simp only [WSD, A.wpD, ba_size, ba_extract, ba_list, sx, Nat.reduceBEq, Nat.reduceAdd, Nat.reduceLeDiff, reduceCtorEq]
    exact fin _ ⟨rfl, rfl, rfl⟩ rfl rfl
  | _ =>
    rw [ha] at hat
    obtain ⟨n, T, q, rfl⟩ := hat
    simp only [sx, Nat.reduceBEq, Nat.reduceAdd, Nat.reduceLeDiff, reduceCtorEq]
    refine W_seq ?_
    refine W_seq (W_drw (drawOK mixedP) ?_)
    simp only [WSD, A.wpD, r71_7, r71_7a, r71_7b, bnd, ba_size, ba_extract, ba_list, sx, Nat.reduceBEq, Nat.reduceAdd, Nat.reduceLeDiff, reduceCtorEq]
    refine ⟨sv [], ?_⟩
    simp only [WSD, A.wpD, ba_size, ba_extract, ba_list, sx, Nat.reduceBEq, Nat.reduceAdd, Nat.reduceLeDiff, reduceCtorEq]
    exact fin _ ⟨rfl, rfl, rfl⟩ rfl rfl

def maxR : Nat := 1073741824
def RQ {α : Type} (enc : α → Value) (b : Nat) (p : α × Rd) (u : Mem) (v : Value) (own' : List HP) (u' : Mem) : Prop := v = enc p.1 ∧ own' = [RdB b p.2] ∧ u' = u
theorem rnum_c {b : Nat} {r : Rd} {u : Mem} (g : GM u) (hr : r.rest.length ≤ maxR) : Fn Tryz.prog 29 [.pointer (some ⟨b, 0, none⟩)] [RdB b r] u (RQ ic b (rdNum r) u) := by
  refine fn29 fun cx hu => ?_
  refine W_seq (W_reg ?_)
  simp only [r29_0, sx, Nat.reduceBEq, Nat.reduceAdd, Nat.reduceLeDiff, reduceCtorEq]
  refine W_seq (W_reg ?_)
  simp only [r29_1, r29_1a, r29_1b, sx, Nat.reduceBEq, Nat.reduceAdd, Nat.reduceLeDiff, reduceCtorEq]
  refine CallW.own (rest := []) (number_c (e := 59) g (Nat.le_trans hr (by decide))) (List.Perm.refl _) ?_
  rintro v own' u1 ⟨rfl, rfl, rfl⟩ _
  exact W_ret (RetQ.out rfl trivial ⟨rfl, rfl, rfl⟩)
theorem rint_c {b : Nat} {r : Rd} {u : Mem} (g : GM u) (hr : r.rest.length ≤ maxR) : Fn Tryz.prog 35 [.pointer (some ⟨b, 0, none⟩)] [RdB b r] u (RQ ic b (rdInt r) u) := by
  refine fn35 fun cx hu => ?_
  refine W_seq (W_reg ?_)
  simp only [r35_0, sx, Nat.reduceBEq, Nat.reduceAdd, Nat.reduceLeDiff, reduceCtorEq]
  refine W_seq (W_reg ?_)
  simp only [r35_1, r35_1a, r35_1b, sx, Nat.reduceBEq, Nat.reduceAdd, Nat.reduceLeDiff, reduceCtorEq]
  refine CallW.own (rest := []) (number_c (e := 59) (least := i64min) g (Nat.le_trans hr (by decide))) (List.Perm.refl _) ?_
  rintro v own' u1 ⟨rfl, rfl, rfl⟩ _
  exact W_ret (RetQ.out rfl trivial ⟨rfl, rfl, rfl⟩)
theorem rclose_c {b : Nat} {r : Rd} {e : UInt8} {u : Mem} : Fn Tryz.prog 115 [.pointer (some ⟨b, 0, none⟩), sv [e]] [RdB b r] u fun v own' u' => own' = [RdB b (rdClose e r)] ∧ u' = u := by
  refine fn115 fun cx hu => W_rd ?_
  refine W_seq (W_reg ?_)
  simp only [r115_0, r115_0a, r115_0b, sx, Nat.reduceBEq, Nat.reduceAdd, Nat.reduceLeDiff, reduceCtorEq]
  refine CallW.q (cutPrefix_q _ _ _) ?_
  simp only [sx, Nat.reduceBEq, Nat.reduceAdd, Nat.reduceLeDiff, reduceCtorEq]
  have hT : (Lib.trimPrefix r.rest [e], Lib.hasPrefix r.rest [e]) = match r.rest with
      | [] => ([], false)
      | c :: t => bif c == e then (t, true) else (c :: t, false) := by
    cases hc : r.rest with
    | nil => rfl
    | cons c t =>
      simp only [Lib.trimPrefix, Lib.hasPrefix, List.isPrefixOf, Bool.and_true]
      rw [show (e == c) = (c == e) from BEq.comm]
      cases (c == e) <;> rfl
  have h1 := congrArg Prod.fst hT
  have h2 := congrArg Prod.snd hT
  simp only at h1 h2
  have fin : ∀ x : Str, W Tryz.prog (chkD Tryz.prog) Tryz.f115.ntmps cx k115_3 (RetQ cx [] fun v own' u' => own' = [RdB b rdFail] ∧ u' = u) [(0, .pointer (some ⟨b, 0, none⟩)), (5, .bool false)] [⟨0, b, [sv x, .bool r.bad], 129⟩] [] u := by
    intro x
    refine W_seq (W_reg ?_)
    simp only [r115_2, sx, Nat.reduceBEq, Nat.reduceAdd, Nat.reduceLeDiff, reduceCtorEq]
    refine W_cnd rfl (fun hb => ?_) (fun hb => by cases hb)
    refine W_reg ?_
    simp only [r115_3, r115_3a, sx, Nat.reduceBEq, Nat.reduceAdd, Nat.reduceLeDiff, reduceCtorEq]
    refine CallW.rd (r := ⟨x, r.bad⟩) (fail_c b _ u) ?_
    rintro v own' u2 ⟨rfl, rfl⟩ _
    refine ⟨rdFail, [], rfl, ?_⟩
    exact RetQ.outG rfl trivial (fun w i => i) ⟨rfl, rfl⟩
  have hcl : rdClose e r = match r.rest with
      | [] => rdFail
      | c :: t => bif c == e then ⟨t, r.bad⟩ else rdFail := rfl
  rw [hcl]
  refine W_seq (W_reg ?_)
  simp only [r115_1, r115_1a, sx, Nat.reduceBEq, Nat.reduceAdd, Nat.reduceLeDiff, reduceCtorEq]
  rw [h1, h2]
  cases hc : r.rest with
  | nil => exact fin _
  | cons c t =>
    simp only
    cases hq : (c == e) with
    | false => exact fin _
    | true =>
      simp only [cond_true]
      refine W_seq (W_reg ?_)
      simp only [r115_2, sx, Nat.reduceBEq, Nat.reduceAdd, Nat.reduceLeDiff, reduceCtorEq]
      refine W_cnd rfl (fun hb => by cases hb) (fun hb => W_skip ?_)
      exact RetQ.outG rfl trivial (fun w i => i) ⟨rfl, rfl⟩
theorem rtext_c {b : Nat} {r : Rd} {u : Mem} (g : GM u) (hr : r.rest.length ≤ maxR) : Fn Tryz.prog 74 [.pointer (some ⟨b, 0, none⟩)] [RdB b r] u (RQ sv b (rdText r) u) := by
  refine fn74 fun cx hu => W_rd ?_
  refine W_seq (W_reg ?_)
  simp only [r74_0, sx, Nat.reduceBEq, Nat.reduceAdd, Nat.reduceLeDiff, reduceCtorEq]
  refine W_seq (W_reg ?_)
  simp only [r74_1, r74_1a, r74_1b, sx, Nat.reduceBEq, Nat.reduceAdd, Nat.reduceLeDiff, reduceCtorEq]
  refine CallW.rd (number_c (e := 58) g (Nat.le_trans hr (by decide))) ?_
  rintro v own' u1 ⟨rfl, rfl, rfl⟩ _
  refine ⟨_, [], rfl, ?_⟩
  have hn : 0 ≤ (rdNumber 58 0 r).1 ∧ (rdNumber 58 0 r).2.rest.length ≤ r.rest.length := by
    rcases rdNumber_cases 58 0 r with q | ⟨n, r', q, hr', hn⟩
    · rw [q]; simp [rdFail]
    · rw [q, hr']; refine ⟨hn, ?_⟩; simp; omega
  have e0 : rdText r = (bif decide (((rdNumber 58 0 r).2.rest.length : Int) < (rdNumber 58 0 r).1) then ([], rdFail) else
    (bif (rdClose 44 ⟨(rdNumber 58 0 r).2.rest.drop (rdNumber 58 0 r).1.toNat, (rdNumber 58 0 r).2.bad⟩).bad then [] else (rdNumber 58 0 r).2.rest.take (rdNumber 58 0 r).1.toNat, rdClose 44 ⟨(rdNumber 58 0 r).2.rest.drop (rdNumber 58 0 r).1.toNat, (rdNumber 58 0 r).2.bad⟩)) := rfl
  rw [e0]
  generalize rdNumber 58 0 r = p at *
  obtain ⟨n, r1⟩ := p
  simp only at hn ⊢
  refine W_seq ?_
  refine W_seq (W_reg ?_)
  simp only [r74_2, ba_size, sx, Nat.reduceBEq, Nat.reduceAdd, Nat.reduceLeDiff, reduceCtorEq]
  refine W_cnd rfl (fun hb => ?_) (fun hb => W_skip ?_)
  · have hb' : decide ((r1.rest.length : Int) < n) = true := by simpa using hb
    refine W_seq (W_reg ?_)
    simp only [r74_3, r74_3a, sx, Nat.reduceBEq, Nat.reduceAdd, Nat.reduceLeDiff, reduceCtorEq]
    refine CallW.rd (fail_c b _ _) ?_
    rintro v own' u2 ⟨rfl, rfl⟩ _
    refine ⟨rdFail, [], rfl, ?_⟩
    refine W_seq (W_reg ?_)
    simp only [r74_4, sx, Nat.reduceBEq, Nat.reduceAdd, Nat.reduceLeDiff, reduceCtorEq]
    rw [hb']
    exact W_ret (RetQ.outG rfl trivial (fun w i => i) ⟨rfl, rfl, rfl⟩)
  have hb' : decide ((r1.rest.length : Int) < n) = false := by simpa using hb
  have hlt := of_decide_eq_false hb'
  rw [hb']
  simp only [cond_false]
  refine W_seq (W_reg ?_)
  simp only [r74_5, bnd, ba_size, ba_extract, sx, Nat.reduceBEq, Nat.reduceAdd, Nat.reduceLeDiff, reduceCtorEq]
  refine ⟨⟨by omega, by omega, by omega⟩, ?_⟩
  refine W_seq (W_reg ?_)
  simp only [r74_6, r74_6a, bnd, ba_size, ba_extract, sx, Nat.reduceBEq, Nat.reduceAdd, Nat.reduceLeDiff, reduceCtorEq]
  refine ⟨⟨by omega, by omega⟩, ?_⟩
  have e2 : List.take (r1.rest.length - n.toNat) (List.drop n.toNat r1.rest) = List.drop n.toNat r1.rest := List.take_of_length_le (by rw [List.length_drop]; omega)
  simp only [Int.toNat_natCast, e2, List.drop_zero, Nat.sub_zero]
  refine W_seq ?_
  refine W_seq (W_reg ?_)
  simp only [r74_7, r74_7a, sx, Nat.reduceBEq, Nat.reduceAdd, Nat.reduceLeDiff, reduceCtorEq]
  refine CallW.rd (r := ⟨List.drop n.toNat r1.rest, r1.bad⟩) (rclose_c (e := 44)) ?_
  rintro v own' u2 ⟨rfl, rfl⟩ _
  refine ⟨_, [], rfl, ?_⟩
  generalize rdClose 44 ⟨List.drop n.toNat r1.rest, r1.bad⟩ = r2 at *
  obtain ⟨rs, bd⟩ := r2
  refine W_seq (W_reg ?_)
  simp only [r74_8, sx, Nat.reduceBEq, Nat.reduceAdd, Nat.reduceLeDiff, reduceCtorEq]
  refine W_cnd rfl (fun hb => ?_) (fun hb => W_skip ?_)
  · refine W_seq (W_reg ?_)
    simp only [r74_9, sx, Nat.reduceBEq, Nat.reduceAdd, Nat.reduceLeDiff, reduceCtorEq]
    have hb : bd = true := hb
    subst hb
    exact W_ret (RetQ.outG rfl trivial (fun w i => i) ⟨rfl, rfl, rfl⟩)
  · refine W_seq (W_reg ?_)
    simp only [r74_10, sx, Nat.reduceBEq, Nat.reduceAdd, Nat.reduceLeDiff, reduceCtorEq]
    have hb : bd = false := hb
    subst hb
    exact W_ret (RetQ.outG rfl trivial (fun w i => i) ⟨rfl, rfl, rfl⟩)
theorem rleft_c {b : Nat} {r : Rd} {u : Mem} : Fn Tryz.prog 73 [.pointer (some ⟨b, 0, none⟩)] [RdB b r] u fun v own' u' => v = ic r.rest.length ∧ own' = [RdB b r] ∧ u' = u := by
  refine fn73 fun cx hu => W_rd ?_
  refine W_seq (W_reg ?_)
  simp only [r73_0, sx, Nat.reduceBEq, Nat.reduceAdd, Nat.reduceLeDiff, reduceCtorEq]
  refine W_seq (W_reg ?_)
  simp only [r73_1, ba_size, sx, Nat.reduceBEq, Nat.reduceAdd, Nat.reduceLeDiff, reduceCtorEq]
  exact W_ret (RetQ.outG rfl trivial (fun w i => i) ⟨rfl, rfl, rfl⟩)
theorem rdone_c {b : Nat} {r : Rd} {u : Mem} : Fn Tryz.prog 37 [.pointer (some ⟨b, 0, none⟩)] [RdB b r] u fun v own' u' => v = .bool (!r.bad && r.rest.isEmpty) ∧ own' = [RdB b r] ∧ u' = u := by
  refine fn37 fun cx hu => W_rd ?_
  refine W_seq (W_reg ?_)
  simp only [r37_0, sx, Nat.reduceBEq, Nat.reduceAdd, Nat.reduceLeDiff, reduceCtorEq]
  refine W_seq (W_reg ?_)
  simp only [r37_1, ba_list, sx, Nat.reduceBEq, Nat.reduceAdd, Nat.reduceLeDiff, reduceCtorEq]
  refine W_ret (RetQ.outG rfl trivial (fun w i => i) ⟨?_, rfl, rfl⟩)
  cases r.bad <;> cases r.rest <;> rfl
def ms (r : Rd) : Nat := r.rest.length + bif r.bad then 0 else 1
theorem num_less (e : UInt8) (least : Int) (r : Rd) : (rdNumber e least r).2.rest.length ≤ r.rest.length ∧ (0 < r.rest.length → (rdNumber e least r).2.rest.length < r.rest.length) ∧ (r.bad = false → ms (rdNumber e least r).2 < ms r) := by
  unfold ms
  rcases rdNumber_cases e least r with q | ⟨n, r', q, hr, hn⟩
  · rw [q]
    refine ⟨by simp [rdFail], fun h => by simp [rdFail]; exact h, fun h => by simp [rdFail, h]⟩
  · rw [q, hr]
    have := List.length_pos_iff.2 (itoa_ne n)
    refine ⟨by simp; omega, fun _ => by simp; omega, fun h => by simp [h]; omega⟩
theorem itL_step {α : Type} {one : Rd → α × Rd} {f : Nat} {n : Int} {acc : List α} {r : Rd} (h1 : 0 < n) (h2 : r.bad = false) (hf : 0 < f) : itL one f n acc r = itL one (f - 1) (n - 1) (acc ++ [(one r).1]) (one r).2 := by
  obtain ⟨k, rfl⟩ : ∃ k, f = k + 1 := ⟨f - 1, by omega⟩
  rw [itL]
  simp [h1, h2]
theorem itL_end {α : Type} {one : Rd → α × Rd} {f : Nat} {n : Int} {acc : List α} {r : Rd} (h : ¬ (0 < n ∧ r.bad = false)) : itL one f n acc r = (acc, r) := by
  cases f with
  | zero => rfl
  | succ f =>
    rw [itL]
    have : (decide (0 < n) && !r.bad) = false := by
      cases hb : r.bad <;> simp_all
    rw [this]; rfl
theorem Row_nil {cx : Ctx} {E : TypeId} {k : Nat} {L : List HP} {u : Mem} {w : World} (i : Inv cx L u w) : Inv cx (Row E k (.slice none 0 0) 0 [] :: L) u w :=
  i.conseq fun h s => ⟨fun _ => none, h, fun b => .inl ⟨rfl, rfl⟩, ⟨by simp, .inl ⟨rfl, rfl, fun _ => rfl⟩⟩, s⟩
theorem W_row0 {P : Program} {D : Nat → Array Oper → List Nat → List I0 → List Nat → Bool} {n : Nat} {cx : Ctx} {Q : PQ} {e : Env} {bx : List Box} {own : List HP} {u : Mem} {s : SC} (E : TypeId) (k : Nat)
    (h : W P D n cx s Q e bx (Row E k (.slice none 0 0) 0 [] :: own) u) : W P D n cx s Q e bx own u := by
  refine W_gh (fun w i => ?_) h
  exact (Row_nil (E := E) (k := k) i).perm (perm_own (List.Perm.refl _)).symm
theorem W_frz {P : Program} {D : Nat → Array Oper → List Nat → List I0 → List Nat → Bool} {n : Nat} {cx : Ctx} {Q : PQ} {e : Env} {bx : List Box} {own : List HP} {u : Mem} {s : SC} {E : TypeId} {k m : Nat} {v : Value} {xs : List Value}
    (h : ∀ u' bs, mle u u' → rowB E k v m xs bs → mpl (MB bs) (MU u') → W P D n cx s Q e bx own u') : W P D n cx s Q e bx (Row E k v m xs :: own) u := by
  refine W_some fun w i => ?_
  obtain ⟨bs, hb, i1⟩ := Row_split (i.perm (perm_own (List.Perm.refl _)))
  obtain ⟨u', i2, hle, hm⟩ := Inv.frz i1
  exact ⟨bx, own, u', i2, h u' bs hle hb hm⟩
theorem rdNumber_i64 (e : UInt8) (least : Int) (r : Rd) : i64 (rdNumber e least r).1 := by
  unfold rdNumber
  simp only
  split
  · exact ⟨by omega, by omega⟩
  · split
    · rename_i n hn
      cases (itoaB n == (r.rest.take 21).take (Lib.indexByte (r.rest.take 21) e).toNat) && decide (least ≤ n)
      · exact ⟨by simp, by simp⟩
      · exact Lib.atoiAll_bounds hn
    · exact ⟨by omega, by omega⟩
theorem i1_flat (l : List Int) : (l.map i1).flatten = l.map ic := by
  induction l with
  | nil => rfl
  | cons x r ih => simp [ih]
theorem rnums_c {b : Nat} {r : Rd} {u : Mem} (g : GM u) (hr : r.rest.length ≤ maxR) : Fn Tryz.prog 72 [.pointer (some ⟨b, 0, none⟩), .func (.func 35) #[.pointer (some ⟨b, 0, none⟩)] #[]] [RdB b r] u fun v own' u' => own' = [RdB b (rdNums r).2] ∧ Ints (MU u') v (rdNums r).1 := by
  unfold maxR at hr
  refine fn72 fun cx hu => W_rd ?_
  refine W_seq (W_reg ?_)
  simp only [r72_0, sx, Nat.reduceBEq, Nat.reduceAdd, Nat.reduceLeDiff, reduceCtorEq]
  refine W_seq (W_reg ?_)
  simp only [r72_1, sx, Nat.reduceBEq, Nat.reduceAdd, Nat.reduceLeDiff, reduceCtorEq]
  refine W_seq ?_
  refine W_seq (W_reg ?_)
  simp only [r72_2, r72_2a, r72_2b, sx, Nat.reduceBEq, Nat.reduceAdd, Nat.reduceLeDiff, reduceCtorEq]
  refine CallW.rd (number_c (e := 91) g (Nat.le_trans hr (by decide))) ?_
  rintro v own' u1 ⟨rfl, rfl, rfl⟩ _
  refine ⟨_, [], rfl, ?_⟩
  have hnl := num_less 91 0 r
  have hni := rdNumber_i64 91 0 r
  have e0 : rdNums r = (bif (rdClose 93 (itL rdInt ((rdNumber 91 0 r).2.rest.length + 2) (rdNumber 91 0 r).1 [] (rdNumber 91 0 r).2).2).bad then [] else (itL rdInt ((rdNumber 91 0 r).2.rest.length + 2) (rdNumber 91 0 r).1 [] (rdNumber 91 0 r).2).1, rdClose 93 (itL rdInt ((rdNumber 91 0 r).2.rest.length + 2) (rdNumber 91 0 r).1 [] (rdNumber 91 0 r).2).2) := rfl
  rw [e0]
  clear e0
  generalize rdNumber 91 0 r = p at *
  obtain ⟨n0, r1⟩ := p
  simp only at hnl hni ⊢
  obtain ⟨_, hni⟩ := hni
  refine W_row0 3 1 ?_
  refine W_blk (W_loop (fun m e bx own u' => ∃ (n : Int) (rr : Rd) (acc : List Int) (f : Nat) (v : Value), ms rr ≤ m ∧ ms rr < f ∧ acc.length + ms rr ≤ r1.rest.length + 1 ∧ itL rdInt f n acc rr = itL rdInt (r1.rest.length + 2) n0 [] r1 ∧ n ≤ n0 ∧
    St [(0, .pointer (some ⟨b, 0, none⟩)), (1, .func (.func 35) #[.pointer (some ⟨b, 0, none⟩)] #[]), (5, v), (6, ic n)] [⟨0, b, [sv rr.rest, .bool rr.bad], 129⟩] (fun own u' => u1 = u' ∧ own = [Row 3 1 v acc.length (acc.map ic)]) e bx own u') (m := ms r1) ?_ ?_)
  · refine ⟨n0, r1, [], r1.rest.length + 2, _, Nat.le_refl _, ?_, ?_, rfl, Int.le_refl _, .mk ⟨rfl, rfl⟩⟩
    · unfold ms; cases r1.bad <;> simp <;> omega
    · unfold ms; cases r1.bad <;> simp
  rintro m e bx own u' ⟨n, rr, acc, f, v, hm, hf, hacc, heq, hn0, ⟨rfl, rfl⟩⟩
  refine W_seq ?_
  refine W_seq (W_reg ?_)
  simp only [r72_3, sx, Nat.reduceBEq, Nat.reduceAdd, Nat.reduceLeDiff, reduceCtorEq]
  refine W_cnd rfl (fun hc => W_skip ?_) (fun hc => W_exit ?_)
  · have hc' : 0 < n ∧ rr.bad = false := by
      simp only [Bool.cond_false_right, Bool.and_eq_true, Bool.not_eq_true', decide_eq_true_eq] at hc
      exact hc
    rw [itL_step hc'.1 hc'.2 (by omega)] at heq
    have hl := (num_less 59 i64min rr)
    have hms := hl.2.2 hc'.2
    have hrl : rr.rest.length ≤ r1.rest.length + 1 := by unfold ms at hacc; omega
    refine W_seq (W_blk (W_reg ?_))
    simp only [r72_5, r72_5a, r72_5b, r72_5c, r72_5d, sx, Nat.reduceBEq, Nat.reduceAdd, Nat.reduceLeDiff, reduceCtorEq]
    refine CallW.rd (rint_c g (by unfold maxR; omega)) ?_
    rintro v2 own' u2 ⟨rfl, rfl, rfl⟩ _
    refine ⟨_, [], rfl, ?_⟩
    refine .inl ⟨by simp [lenAll, vcells], fun blk u3 hle3 hu3 => ?_⟩
    simp only [sx, Nat.reduceBEq, Nat.reduceAdd, Nat.reduceLeDiff, reduceCtorEq]
    refine ⟨acc.length, acc.map ic, [], [ic (rdInt rr).1], List.Perm.refl _, by simp, fun _ => ⟨blk, 0, rfl, _, _, _, hu3, by simp [flatC, vcells]⟩, ⟨rfl, trivial⟩, by omega, by omega, fun v' _ => ?_⟩
    refine W_less hu hle3 ?_
    refine W_reg ?_
    simp only [r72_4, sx, Nat.reduceBEq, Nat.reduceAdd, Nat.reduceLeDiff, reduceCtorEq]
    rw [wrapI (by omega) (by omega)]
    refine ⟨ms (rdInt rr).2, Nat.lt_of_lt_of_le hms hm, n - 1, (rdInt rr).2, acc ++ [(rdInt rr).1], f - 1, v', Nat.le_refl _, ?_, ?_, heq, by omega, .mk ⟨rfl, by simp⟩⟩
    · have : ms (rdInt rr).2 < ms rr := hms
      omega
    · have : ms (rdInt rr).2 < ms rr := hms
      simp; omega
  · have hc' : ¬ (0 < n ∧ rr.bad = false) := by
      simp only [Bool.cond_false_right, Bool.and_eq_false_iff, Bool.not_eq_false', decide_eq_false_iff_not] at hc
      rintro ⟨h1, h2⟩
      rcases hc with q | q
      · exact q h1
      · rw [h2] at q; cases q
    rw [itL_end hc'] at heq
    rw [← heq]
    simp only
    refine W_seq ?_
    refine W_seq (W_reg ?_)
    simp only [r72_6, r72_6a, sx, Nat.reduceBEq, Nat.reduceAdd, Nat.reduceLeDiff, reduceCtorEq]
    refine CallW.rd (rclose_c (e := 93)) ?_
    rintro v2 own' u2 ⟨rfl, rfl⟩ _
    refine ⟨_, [], rfl, ?_⟩
    generalize rdClose 93 rr = r3 at *
    obtain ⟨rs, bd⟩ := r3
    refine W_seq (W_reg ?_)
    simp only [r72_7, sx, Nat.reduceBEq, Nat.reduceAdd, Nat.reduceLeDiff, reduceCtorEq]
    refine W_cnd rfl (fun hb => ?_) (fun hb => W_skip ?_)
    · have hb : bd = true := hb
      subst hb
      refine W_seq (W_reg ?_)
      simp only [r72_8, sx, Nat.reduceBEq, Nat.reduceAdd, Nat.reduceLeDiff, reduceCtorEq]
      exact W_ret (RetQ.outG rfl trivial (fun w i => Inv.drop (L := [RdB b ⟨rs, true⟩]) (D := [Row 3 1 v acc.length (acc.map ic)]) i) ⟨rfl, nilSlC _ 1⟩)
    · have hb : bd = false := hb
      subst hb
      refine W_seq (W_reg ?_)
      simp only [r72_9, sx, Nat.reduceBEq, Nat.reduceAdd, Nat.reduceLeDiff, reduceCtorEq]
      refine W_frz fun u3 bs hle3 hrb hmb => ?_
      refine W_ret (RetQ.outG rfl trivial (fun w i => i) ⟨rfl, ?_⟩)
      refine SlC.mono (SlC_rowB (T := 3) (k := 1) (bs := bs) ?_ ?_ ?_) hmb
      · rw [i1_flat, List.length_map]; exact hrb
      · rw [List.length_map]; unfold maxN; omega
      · simp
theorem rnums {b : Nat} {r : Rd} {u : Mem} (g : GM u) (hr : r.rest.length ≤ maxR) : Fn Tryz.prog 30 [.pointer (some ⟨b, 0, none⟩)] [RdB b r] u fun v own' u' => own' = [RdB b (rdNums r).2] ∧ Ints (MU u') v (rdNums r).1 := by
  refine fn30 fun cx hu => ?_
  refine W_seq (W_reg ?_)
  simp only [r30_0, sx, Nat.reduceBEq, Nat.reduceAdd, Nat.reduceLeDiff, reduceCtorEq]
  refine W_seq (W_reg ?_)
  simp only [r30_1, r30_1a, r30_1b, sx, Nat.reduceBEq, Nat.reduceAdd, Nat.reduceLeDiff, reduceCtorEq]
  refine CallW.own (rest := []) (rnums_c g hr) (List.Perm.refl _) ?_
  rintro v own' u1 ⟨rfl, hv⟩ _
  exact W_ret (RetQ.out rfl trivial ⟨rfl, hv⟩)
end Go.Proofs.YtenmmfkgopffgaaGreatDoor
