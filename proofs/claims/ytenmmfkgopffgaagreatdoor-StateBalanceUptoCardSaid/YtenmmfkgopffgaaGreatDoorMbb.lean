/- Part 28 of the proofs that the program's StateBack and StateBalance return true (texts Wp Ta Wi joined): what its functions compute. -/
import Derived.Test.YtenmmfkgopffgaaGreatDoorMaw
import Derived.Test.YtenmmfkgopffgaaGreatDoorMba
import Derived.Test.YtenmmfkgopffgaaGreatDoorMaz
import Derived.Test.YtenmmfkgopffgaaGreatDoorMak
import Derived.Test.YtenmmfkgopffgaaGreatDoorMao
set_option linter.unusedVariables false
set_option linter.unusedSimpArgs false
set_option maxRecDepth 4000
namespace Go.Proofs.YtenmmfkgopffgaaGreatDoor
open Go

theorem few_c {cs : List Value} {s : State} {u : Mem} (hv : stateR (MU u) cs s) : QFn Tryz.prog 7 [.agg cs.toArray] u (.bool (fewB s)) := by
  obtain ⟨vk, vc, vl, vv, rfl, ⟨ak, ck, rfl, _⟩, ⟨cssc, ⟨ac, cc, rfl, hmaxc, hcapc, hrowc, hlenc⟩, hallc⟩, ⟨al, cl, rfl, _⟩, ⟨av, cv, rfl, _⟩⟩ := hv
  have hlc := hallc.len
  refine fn7 fun cx hu => ?_
  refine W_seq (W_reg ?_)
  simp only [r7_0, r7_0a, sx, Nat.reduceBEq, Nat.reduceAdd, Nat.reduceLeDiff, reduceCtorEq]
  intro b1
  refine W_seq ?_
  refine W_seq (W_reg ?_)
  simp only [r7_1, sx, Nat.reduceBEq, Nat.reduceAdd, Nat.reduceLeDiff, reduceCtorEq]
  refine (W_blk (W_loop (fun m e bx own u' => ∃ i, i ≤ s.circles.length ∧ m = s.circles.length - i ∧ St [(1, .pointer (some ⟨b1, 0, none⟩)), (3, ic i)] [⟨1, b1, [ic s.day, .slice ak (s.keys.map i1).length ck, .slice ac cssc.length cc, .slice al (s.lots.map lotC).length cl, .slice av (s.voids.map voidC).length cv], 27⟩] (fun own u' => u = u' ∧ fewB s = (((s.circles.take 6).drop i).all fewC && fewR s)) e bx own u') (m := s.circles.length) ⟨0, by omega, by omega, ?_⟩ ?_))
  · exact .mk ⟨rfl, rfl⟩
  rintro m e bx own u' ⟨i, hi, rfl, ⟨rfl, hs⟩⟩
  refine W_seq ?_
  refine W_seq (W_reg ?_)
  simp only [r7_2, sx, Nat.reduceBEq, Nat.reduceAdd, Nat.reduceLeDiff, reduceCtorEq]
  refine (W_cnd rfl (fun hc => W_skip ?_) (fun hc => W_exit ?_))
  rotate_left
  · have hge : ¬ (i < s.circles.length ∧ i < 6) := by
      simp only [Bool.cond_false_right] at hc
      simp at hc
      omega
    have hd : (s.circles.take 6).drop i = [] := List.drop_eq_nil_of_le (by rw [List.length_take]; omega)
    rw [hd] at hs
    refine W_seq (W_reg ?_)
    simp only [r7_22, sx, Nat.reduceBEq, Nat.reduceAdd, Nat.reduceLeDiff, reduceCtorEq]
    refine W_ret (RetQ.outQ hu (mle_refl _) rfl trivial ⟨?_, rfl, rfl⟩)
    rw [hs]
    simp only [Bool.cond_false_right, List.length_map, fewR, List.all_nil, Bool.true_and]
    congr 1
    rw [Bool.eq_iff_iff]; simp; omega
  have hlt : i < cssc.length ∧ i < 6 := by
    simp only [Bool.cond_false_right] at hc
    simp at hc
    omega
  have hlx : i < s.circles.length := by omega
  obtain ⟨o, off, rfl, hr⟩ := hrowc (by intro q; simp [q] at hlt)
  have hcell := SlC_at hr hlenc hlt.1
  have hci := hallc.at_ hlt.1 hlx
  have hs1 : fewB s = (fewC s.circles[i] && (((s.circles.take 6).drop (i + 1)).all fewC && fewR s)) := by
    rw [hs, List.drop_eq_getElem_cons (by rw [List.length_take]; omega)]
    simp [Bool.and_assoc]
  generalize s.circles[i] = c at hci hs1
  obtain ⟨vm, vp, vb, vt, vo, vu, vq, vc, heq, ht, ⟨cssm, ⟨am, cm, rfl, hmaxm, hcapm, hrowm, hlenm⟩, hallm⟩, ⟨ap, cp, rfl, _⟩, ⟨ab, cb, rfl, _⟩, ⟨at_, ct, rfl, _⟩, ⟨ao, co, rfl, _⟩, ⟨au, cu, rfl, _⟩, ⟨cssq, ⟨aq, cq, rfl, hmaxq, hcapq, hrowq, hlenq⟩, hallq⟩, ⟨cssx, ⟨ax, cx_, rfl, hmaxx, hcapx, hrowx, hlenx⟩, hallx⟩⟩ := hci
  have hlm := hallm.len
  have hlq := hallq.len
  have hlx_ := hallx.len
  rw [heq] at hcell
  refine W_seq (W_blk ?_)
  refine W_seq (W_reg ?_)
  simp only [r7_4, r7_4a, r7_4b, r7_4c, sx, Nat.reduceBEq, Nat.reduceAdd, Nat.reduceLeDiff, reduceCtorEq]
  refine ⟨by omega, _, hcell.lrow, rfl, ?_⟩
  simp only [sx, Nat.reduceBEq, Nat.reduceAdd, Nat.reduceLeDiff, reduceCtorEq]
  intro b4
  refine W_seq ?_
  refine W_seq (W_reg ?_)
  simp only [r7_5, sx, Nat.reduceBEq, Nat.reduceAdd, Nat.reduceLeDiff, reduceCtorEq]
  refine W_cnd rfl (fun hb => ?_) (fun hb => W_skip ?_)
  · refine W_seq (W_reg ?_)
    simp only [r7_6, sx, Nat.reduceBEq, Nat.reduceAdd, Nat.reduceLeDiff, reduceCtorEq]
    refine W_ret (RetQ.outQ hu (mle_refl _) rfl trivial ⟨?_, rfl, rfl⟩)
    have : few0 c = false := by
      simp only [Bool.cond_true_left] at hb
      simp at hb
      simp [few0]
      omega
    rw [hs1, fewC, this]; rfl
  have h0 : few0 c = true := by
    simp only [Bool.cond_true_left] at hb
    simp at hb
    simp [few0]
    omega
  rw [fewC, h0, Bool.true_and] at hs1
  clear hb hs hc
  refine W_seq ?_
  refine W_seq (W_reg ?_)
  simp only [r7_7, sx, Nat.reduceBEq, Nat.reduceAdd, Nat.reduceLeDiff, reduceCtorEq]
  refine (W_blk (W_loop (fun m e bx own u' => ∃ j, j ≤ c.members.length ∧ m = c.members.length - j ∧ St [(1, .pointer (some ⟨b1, 0, none⟩)), (3, ic i), (4, .pointer (some ⟨b4, 0, none⟩)), (5, ic j)] [⟨4, b4, [ic c.id, ic c.found, .string c.text, ic c.version, ic c.law, .slice am cssm.length cm, .slice ap (c.paid.map paidC).length cp, .slice ab (c.bids.map bidC).length cb, .slice at_ (c.turns.map i1).length ct, .slice ao (c.pots.map i1).length co, .slice au (c.out.map i1).length cu, .slice aq cssq.length cq, .slice ax cssx.length cx_, ic c.fund, .bool c.ended], 50⟩, ⟨1, b1, [ic s.day, .slice ak (s.keys.map i1).length ck, .slice (some ⟨o, off, none⟩) cssc.length cc, .slice al (s.lots.map lotC).length cl, .slice av (s.voids.map voidC).length cv], 27⟩] (fun own u' => u = u' ∧ c.members.all few1 = (c.members.drop j).all few1) e bx own u') (m := c.members.length) ⟨0, by omega, by omega, ?_⟩ ?_))
  · exact .mk ⟨rfl, rfl⟩
  rintro m e bx own u' ⟨j, hj, rfl, ⟨rfl, hs⟩⟩
  refine W_seq ?_
  refine W_seq (W_reg ?_)
  simp only [r7_8, sx, Nat.reduceBEq, Nat.reduceAdd, Nat.reduceLeDiff, reduceCtorEq]
  refine (W_cnd rfl (fun hc => W_skip ?_) (fun hc => W_exit ?_))
  · have hltj : j < cssm.length := by simpa using hc
    have hlxj : j < c.members.length := by omega
    obtain ⟨o2, off2, rfl, hr2⟩ := hrowm (by intro q; simp [q] at hltj)
    have hcell2 := SlC_at hr2 hlenm hltj
    have hxj := hallm.at_ hltj hlxj
    rw [List.drop_eq_getElem_cons hlxj, List.all_cons] at hs
    obtain ⟨vj, heq2, aj, cj, rfl, hmj, _⟩ := hxj
    rw [heq2] at hcell2
    refine W_seq (W_blk ?_)
    refine W_seq (W_reg ?_)
    simp only [r7_10, r7_10a, r7_10b, sx, Nat.reduceBEq, Nat.reduceAdd, Nat.reduceLeDiff, reduceCtorEq]
    refine ⟨by omega, [_], (hcell2.part (i := 2) (r := [_]) rfl (by simp)).lrow, rfl, ?_⟩
    simp only [sx, Nat.reduceBEq, Nat.reduceAdd, Nat.reduceLeDiff, reduceCtorEq]
    refine W_cnd rfl (fun hb => ?_) (fun hb => W_skip ?_)
    · refine W_seq (W_reg ?_)
      simp only [r7_11, sx, Nat.reduceBEq, Nat.reduceAdd, Nat.reduceLeDiff, reduceCtorEq]
      refine W_ret (RetQ.outQ hu (mle_refl _) rfl trivial ⟨?_, rfl, rfl⟩)
      have : few1 c.members[j] = false := by simp at hb; simp [few1]; omega
      rw [hs1, hs, this]; rfl
    · refine W_reg ?_
      simp only [r7_9, sx, Nat.reduceBEq, Nat.reduceAdd, Nat.reduceLeDiff, reduceCtorEq]
      rw [wrapS hltj hmaxm]
      refine ⟨_, by omega, j + 1, by omega, rfl, .mk ⟨rfl, ?_⟩⟩
      have : few1 c.members[j] = true := by simp at hb; simp [few1]; omega
      rw [hs, this]; rfl
  have hge : ¬ j < c.members.length := by simp at hc; omega
  rw [List.drop_eq_nil_of_le (by omega)] at hs
  rw [hs, List.all_nil, Bool.true_and] at hs1
  clear hs hc hge hj
  refine W_seq ?_
  refine W_seq (W_reg ?_)
  simp only [r7_12, sx, Nat.reduceBEq, Nat.reduceAdd, Nat.reduceLeDiff, reduceCtorEq]
  refine (W_blk (W_loop (fun m e bx own u' => ∃ j, j ≤ c.op.length ∧ m = c.op.length - j ∧ St [(1, .pointer (some ⟨b1, 0, none⟩)), (3, ic i), (4, .pointer (some ⟨b4, 0, none⟩)), (6, ic j)] [⟨4, b4, [ic c.id, ic c.found, .string c.text, ic c.version, ic c.law, .slice am cssm.length cm, .slice ap (c.paid.map paidC).length cp, .slice ab (c.bids.map bidC).length cb, .slice at_ (c.turns.map i1).length ct, .slice ao (c.pots.map i1).length co, .slice au (c.out.map i1).length cu, .slice aq cssq.length cq, .slice ax cssx.length cx_, ic c.fund, .bool c.ended], 50⟩, ⟨1, b1, [ic s.day, .slice ak (s.keys.map i1).length ck, .slice (some ⟨o, off, none⟩) cssc.length cc, .slice al (s.lots.map lotC).length cl, .slice av (s.voids.map voidC).length cv], 27⟩] (fun own u' => u = u' ∧ c.op.all few2 = (c.op.drop j).all few2) e bx own u') (m := c.op.length) ⟨0, by omega, by omega, ?_⟩ ?_))
  · exact .mk ⟨rfl, rfl⟩
  rintro m e bx own u' ⟨j, hj, rfl, ⟨rfl, hs⟩⟩
  refine W_seq ?_
  refine W_seq (W_reg ?_)
  simp only [r7_13, sx, Nat.reduceBEq, Nat.reduceAdd, Nat.reduceLeDiff, reduceCtorEq]
  refine (W_cnd rfl (fun hc => W_skip ?_) (fun hc => W_exit ?_))
  · have hltj : j < cssq.length := by simpa using hc
    have hlxj : j < c.op.length := by omega
    obtain ⟨o2, off2, rfl, hr2⟩ := hrowq (by intro q; simp [q] at hltj)
    have hcell2 := SlC_at hr2 hlenq hltj
    have hxj := hallq.at_ hltj hlxj
    rw [List.drop_eq_getElem_cons hlxj, List.all_cons] at hs
    obtain ⟨vj, heq2, aj, cj, rfl, hmj, _⟩ := hxj
    rw [heq2] at hcell2
    refine W_seq (W_blk ?_)
    refine W_seq (W_reg ?_)
    simp only [r7_15, r7_15a, r7_15b, sx, Nat.reduceBEq, Nat.reduceAdd, Nat.reduceLeDiff, reduceCtorEq]
    refine ⟨by omega, [_], (hcell2.part (i := 3) (r := [_]) rfl (by simp)).lrow, rfl, ?_⟩
    simp only [sx, Nat.reduceBEq, Nat.reduceAdd, Nat.reduceLeDiff, reduceCtorEq]
    refine W_cnd rfl (fun hb => ?_) (fun hb => W_skip ?_)
    · refine W_seq (W_reg ?_)
      simp only [r7_16, sx, Nat.reduceBEq, Nat.reduceAdd, Nat.reduceLeDiff, reduceCtorEq]
      refine W_ret (RetQ.outQ hu (mle_refl _) rfl trivial ⟨?_, rfl, rfl⟩)
      have : few2 c.op[j] = false := by simp at hb; simp [few2]; omega
      rw [hs1, hs, this]; rfl
    · refine W_reg ?_
      simp only [r7_14, sx, Nat.reduceBEq, Nat.reduceAdd, Nat.reduceLeDiff, reduceCtorEq]
      rw [wrapS hltj hmaxq]
      refine ⟨_, by omega, j + 1, by omega, rfl, .mk ⟨rfl, ?_⟩⟩
      have : few2 c.op[j] = true := by simp at hb; simp [few2]; omega
      rw [hs, this]; rfl
  have hge : ¬ j < c.op.length := by simp at hc; omega
  rw [List.drop_eq_nil_of_le (by omega)] at hs
  rw [hs, List.all_nil, Bool.true_and] at hs1
  clear hs hc hge hj
  refine W_seq (W_reg ?_)
  simp only [r7_17, sx, Nat.reduceBEq, Nat.reduceAdd, Nat.reduceLeDiff, reduceCtorEq]
  refine (W_blk (W_loop (fun m e bx own u' => ∃ j, j ≤ c.claims.length ∧ m = c.claims.length - j ∧ St [(1, .pointer (some ⟨b1, 0, none⟩)), (3, ic i), (4, .pointer (some ⟨b4, 0, none⟩)), (7, ic j)] [⟨4, b4, [ic c.id, ic c.found, .string c.text, ic c.version, ic c.law, .slice am cssm.length cm, .slice ap (c.paid.map paidC).length cp, .slice ab (c.bids.map bidC).length cb, .slice at_ (c.turns.map i1).length ct, .slice ao (c.pots.map i1).length co, .slice au (c.out.map i1).length cu, .slice aq cssq.length cq, .slice ax cssx.length cx_, ic c.fund, .bool c.ended], 50⟩, ⟨1, b1, [ic s.day, .slice ak (s.keys.map i1).length ck, .slice (some ⟨o, off, none⟩) cssc.length cc, .slice al (s.lots.map lotC).length cl, .slice av (s.voids.map voidC).length cv], 27⟩] (fun own u' => u = u' ∧ c.claims.all few3 = (c.claims.drop j).all few3) e bx own u') (m := c.claims.length) ⟨0, by omega, by omega, ?_⟩ ?_))
  · exact .mk ⟨rfl, rfl⟩
  rintro m e bx own u' ⟨j, hj, rfl, ⟨rfl, hs⟩⟩
  refine W_seq ?_
  refine W_seq (W_reg ?_)
  simp only [r7_18, sx, Nat.reduceBEq, Nat.reduceAdd, Nat.reduceLeDiff, reduceCtorEq]
  refine (W_cnd rfl (fun hc => W_skip ?_) (fun hc => W_exit ?_))
  · have hltj : j < cssx.length := by simpa using hc
    have hlxj : j < c.claims.length := by omega
    obtain ⟨o2, off2, rfl, hr2⟩ := hrowx (by intro q; simp [q] at hltj)
    have hcell2 := SlC_at hr2 hlenx hltj
    have hxj := hallx.at_ hltj hlxj
    rw [List.drop_eq_getElem_cons hlxj, List.all_cons] at hs
    obtain ⟨vj, vk2, heq2, ⟨aj, cj, rfl, hmj, _⟩, ⟨ak2, ck2, rfl, hmk, _⟩⟩ := hxj
    rw [heq2] at hcell2
    refine W_seq (W_blk ?_)
    refine W_seq (W_reg ?_)
    simp only [r7_20, r7_20a, r7_20b, r7_20c, r7_20d, sx, Nat.reduceBEq, Nat.reduceAdd, Nat.reduceLeDiff, reduceCtorEq]
    refine ⟨by omega, [_], (hcell2.part (i := 7) (r := [_]) rfl (by simp)).lrow, rfl, ?_⟩
    simp only [sx, Nat.reduceBEq, Nat.reduceAdd, Nat.reduceLeDiff, reduceCtorEq]
    refine ⟨fun _ => by omega, [_], fun _ => (hcell2.part (i := 8) (r := [_]) rfl (by simp)).lrow, rfl, ?_⟩
    simp only [sx, Nat.reduceBEq, Nat.reduceAdd, Nat.reduceLeDiff, reduceCtorEq]
    refine W_cnd rfl (fun hb => ?_) (fun hb => W_skip ?_)
    · refine W_seq (W_reg ?_)
      simp only [r7_21, sx, Nat.reduceBEq, Nat.reduceAdd, Nat.reduceLeDiff, reduceCtorEq]
      refine W_ret (RetQ.outQ hu (mle_refl _) rfl trivial ⟨?_, rfl, rfl⟩)
      have : few3 c.claims[j] = false := by simp only [Bool.cond_true_left] at hb; simp at hb; simp [few3]; omega
      rw [hs1, hs, this]; rfl
    · refine W_reg ?_
      simp only [r7_19, sx, Nat.reduceBEq, Nat.reduceAdd, Nat.reduceLeDiff, reduceCtorEq]
      rw [wrapS hltj hmaxx]
      refine ⟨_, by omega, j + 1, by omega, rfl, .mk ⟨rfl, ?_⟩⟩
      have : few3 c.claims[j] = true := by simp only [Bool.cond_true_left] at hb; simp at hb; simp [few3]; omega
      rw [hs, this]; rfl
  have hge : ¬ j < c.claims.length := by simp at hc; omega
  rw [List.drop_eq_nil_of_le (by omega)] at hs
  rw [hs, List.all_nil, Bool.true_and] at hs1
  refine W_reg ?_
  simp only [r7_3, sx, Nat.reduceBEq, Nat.reduceAdd, Nat.reduceLeDiff, reduceCtorEq]
  rw [wrapS hlt.1 hmaxc]
  exact ⟨_, by omega, i + 1, by omega, rfl, .mk ⟨rfl, hs1⟩⟩
end Go.Proofs.YtenmmfkgopffgaaGreatDoor

set_option maxRecDepth 4000
set_option linter.unnecessarySimpa false
namespace Go.Proofs.YtenmmfkgopffgaaGreatDoor
open Go

def smallOk : Prop := ∀ u : Mem, GM u → Fn Tryz.prog 6 [] [] u fun v own' u' => v = .bool true ∧ own' = []
def sumK (l : List Lot) : Nat → Int
  | 0 => 0
  | n + 1 => sumK l n + balB l n
theorem bal_cons (x : Lot) (r : List Lot) (k : Int) : balB (x :: r) k = (if x.spent = -1 ∧ x.owner = k then x.to_ - x.from_ else 0) + balB r k := by
  unfold balB openL
  rw [List.filter_cons]
  by_cases h : x.spent = -1 ∧ x.owner = k
  · simp [h.1, h.2, cntS, spanOf]
  · rw [if_neg h, if_neg (by simpa using h)]; simp
theorem sum_cons (x : Lot) (r : List Lot) : sumB (x :: r) = (if x.spent = -1 then x.to_ - x.from_ else 0) + sumB r := by
  unfold sumB openL
  rw [List.filter_cons]
  by_cases h : x.spent = -1
  · simp [h, cntS, spanOf]
  · rw [if_neg h, if_neg (by simpa using h)]; simp
theorem sumK_cons (x : Lot) (r : List Lot) (n : Nat) (h0 : 0 ≤ x.owner) : sumK (x :: r) n = (if x.spent = -1 ∧ x.owner < n then x.to_ - x.from_ else 0) + sumK r n := by
  induction n with
  | zero => simp only [sumK]; rw [if_neg (by omega)]; rfl
  | succ n ih =>
    simp only [sumK]
    rw [ih, bal_cons]
    by_cases h1 : x.spent = -1
    · by_cases h2 : x.owner < n
      · rw [if_pos ⟨h1, h2⟩, if_neg (by omega), if_pos ⟨h1, by omega⟩]; omega
      · by_cases h3 : x.owner = n
        · rw [if_neg (by omega), if_pos ⟨h1, h3⟩, if_pos ⟨h1, by omega⟩]; omega
        · rw [if_neg (by omega), if_neg (by omega), if_neg (by omega)]; omega
    · rw [if_neg (by omega), if_neg (by omega), if_neg (by omega)]; omega
theorem lots_lotB : ∀ (l : List Lot) (o : Option Lot), lotsB o l = true → ∀ x ∈ l, lotB x = true
  | [], _, _ => by simp
  | x :: l, o, h => by
    have h' : lotB x = true ∧ lotsB (some x) l = true := by
      cases o with
      | none => simp only [lotsB, Bool.and_eq_true] at h; exact ⟨h.1, h.2⟩
      | some p => simp only [lotsB, Bool.and_eq_true] at h; exact ⟨h.1.1, h.2⟩
    intro y hy
    rcases List.mem_cons.1 hy with rfl | hy
    · exact h'.1
    · exact lots_lotB l _ h'.2 y hy
theorem lot_ok {x : Lot} (h : lotB x = true) : 0 ≤ x.owner ∧ x.owner < 200 ∧ x.from_ < x.to_ ∧ 0 ≤ x.from_ ∧ x.to_ ≤ 1048576 := by
  unfold lotB keyB at h
  simp only [Bool.and_eq_true, decide_eq_true_eq] at h
  omega
theorem sumK_all {l : List Lot} (h : ∀ x ∈ l, lotB x = true) : sumK l 200 = sumB l := by
  induction l with
  | nil => rfl
  | cons x r ih =>
    have h1 := lot_ok (h x (by simp))
    rw [sumK_cons _ _ _ h1.1, sum_cons, ih fun y hy => h y (by simp [hy])]
    by_cases h2 : x.spent = -1
    · rw [if_pos ⟨h2, by omega⟩, if_pos h2]
    · rw [if_neg (by omega), if_neg h2]
theorem bal_bound {l : List Lot} (h : ∀ x ∈ l, lotB x = true) (k : Int) : 0 ≤ balB l k ∧ balB l k ≤ 1048576 * l.length := by
  induction l with
  | nil => simp [balB, openL, cntS]
  | cons x r ih =>
    have h1 := lot_ok (h x (by simp))
    have h2 := ih fun y hy => h y (by simp [hy])
    rw [bal_cons, List.length_cons]
    split <;> omega
theorem sumK_bound {l : List Lot} (h : ∀ x ∈ l, lotB x = true) (n : Nat) : 0 ≤ sumK l n ∧ sumK l n ≤ n * (1048576 * l.length) := by
  induction n with
  | zero => simp [sumK]
  | succ n ih =>
    have h1 := bal_bound h n
    simp only [sumK]
    have : ((n + 1 : Nat) : Int) * (1048576 * (l.length : Int)) = n * (1048576 * l.length) + 1048576 * l.length := by rw [Int.natCast_add, Int.add_mul]; simp
    omega
theorem bal_take {l : List Lot} {i : Nat} (k : Int) (h : i < l.length) : balB (l.take (i + 1)) k = balB (l.take i) k + (if l[i].owner = k ∧ l[i].spent = -1 then l[i].to_ - l[i].from_ else 0) := by
  unfold balB
  rw [openL_take h, cntS_app]
  by_cases hh : l[i].owner = k ∧ l[i].spent = -1
  · rw [if_pos hh]; simp [hh.1, hh.2, cntS, spanOf]
  · rw [if_neg hh]
    have : ((l[i].spent == -1) && (l[i].owner == k)) = false := by rw [Bool.eq_false_iff]; simp; omega
    rw [this]; rfl
set_option maxHeartbeats 1000000 in
theorem stateBalance_c (hsm : smallOk) {cs : List Value} {s : State} {u : Mem} (g : GM u) (hv0 : stateR (MU u) cs s) : Fn Tryz.prog 5 [.agg cs.toArray] [] u fun v own' u' => v = .bool true ∧ own' = [] := by
  obtain ⟨vk, vc, vl, vv, rfl, hk, hc, hl, hvd⟩ := id hv0
  obtain ⟨al, cl, rfl, hmaxl, hcapl, hrowl, hlenl⟩ := id hl
  have vlo := hl.one
  refine fn5 fun cx hu => ?_
  refine W_seq (W_reg ?_)
  simp only [r5_0, r5_0a, sx, Nat.reduceBEq, Nat.reduceAdd, Nat.reduceLeDiff, reduceCtorEq]
  intro b1
  try refine ⟨⟨hk.one, hc.one, vlo, hvd.one⟩, ?_⟩
  refine W_seq (W_reg ?_)
  simp only [r5_1, r5_1a, sx, Nat.reduceBEq, Nat.reduceAdd, Nat.reduceLeDiff, reduceCtorEq]
  refine CallW.u (hsm u g) ?_
  rintro v1 own' u1 ⟨rfl, rfl⟩ hle1
  simp only [sx, Nat.reduceBEq, Nat.reduceAdd, Nat.reduceLeDiff, reduceCtorEq]
  have hv1 := stateR.mono hv0 (mpl_mu hle1)
  refine W_seq ?_
  refine W_seq (W_reg ?_)
  simp only [r5_2, r5_2a, r5_2b, r5_2c, r5_2d, sx, Nat.reduceBEq, Nat.reduceAdd, Nat.reduceLeDiff, reduceCtorEq]
  refine ⟨_, few_c hv1, ?_⟩
  simp only [sx, Nat.reduceBEq, Nat.reduceAdd, Nat.reduceLeDiff, reduceCtorEq]
  refine ⟨_, fun _ => right_c hv1, ?_⟩
  simp only [sx, Nat.reduceBEq, Nat.reduceAdd, Nat.reduceLeDiff, reduceCtorEq]
  refine W_cnd rfl (fun hb => ?_) (fun hb => W_skip ?_)
  · refine W_seq (W_reg ?_)
    simp only [r5_3, sx, Nat.reduceBEq, Nat.reduceAdd, Nat.reduceLeDiff, reduceCtorEq]
    exact W_ret (RetQ.outG rfl trivial (fun w i => i) ⟨rfl, rfl⟩)
  have hr : rightB s = true := by
    cases h1 : fewB s <;> cases h2 : rightB s <;> rw [h1, h2] at hb <;> first | rfl | simp at hb
  have hlo : lotsB none s.lots = true := by unfold rightB at hr; simp only [Bool.and_eq_true] at hr; exact hr.2
  have hlb := lots_lotB _ _ hlo
  have hmx := hmaxl
  unfold maxN at hmx
  simp only [List.length_map] at hmaxl hcapl hmx
  simp only [sx, Nat.reduceBEq, Nat.reduceAdd, Nat.reduceLeDiff, reduceCtorEq]
  refine W_seq (W_reg ?_)
  simp only [r5_4, sx, Nat.reduceBEq, Nat.reduceAdd, Nat.reduceLeDiff, reduceCtorEq]
  refine W_seq ?_
  refine W_seq (W_reg ?_)
  simp only [r5_5, sx, Nat.reduceBEq, Nat.reduceAdd, Nat.reduceLeDiff, reduceCtorEq]
  refine W_blk (W_loop (fun m e bx own u' => ∃ i : Nat, i ≤ 200 ∧ m = 200 - i ∧ St [(1, .pointer (some ⟨b1, 0, none⟩)), (3, .bool true), (4, ic (sumK s.lots i)), (5, ic i)] [⟨1, b1, [ic s.day, vk, vc, .slice al (s.lots.map lotC).length cl, vv], 27⟩] (fun own u' => u1 = u' ∧ own = []) e bx own u') (m := 200) ⟨0, by omega, by omega, .mk ⟨rfl, rfl⟩⟩ ?_)
  rintro m e bx own u' ⟨i, hi, rfl, ⟨rfl, rfl⟩⟩
  refine W_seq ?_
  refine W_seq (W_reg ?_)
  simp only [r5_6, sx, Nat.reduceBEq, Nat.reduceAdd, Nat.reduceLeDiff, reduceCtorEq]
  refine W_cnd rfl (fun hc => W_skip ?_) (fun hc => W_exit ?_)
  rotate_left
  · have hge : i = 200 := by simp at hc; omega
    subst hge
    rw [sumK_all hlb]
    refine W_seq ?_
    refine W_reg ?_
    simp only [r5_17, r5_17a, r5_17b, sx, Nat.reduceBEq, Nat.reduceAdd, Nat.reduceLeDiff, reduceCtorEq]
    refine ⟨_, sum_q (hl.mono (mpl_mu hle1)) hlo, ?_⟩
    simp only [sx, Nat.reduceBEq, Nat.reduceAdd, Nat.reduceLeDiff, reduceCtorEq]
    exact W_ret (RetQ.outG rfl trivial (fun w i => i) ⟨by simp, rfl⟩)
  have hlt : i < 200 := by simp at hc; omega
  refine W_seq (W_blk ?_)
  refine W_seq (W_reg ?_)
  simp only [r5_8, sx, Nat.reduceBEq, Nat.reduceAdd, Nat.reduceLeDiff, reduceCtorEq]
  refine W_seq ?_
  refine W_seq (W_reg ?_)
  simp only [r5_9, sx, Nat.reduceBEq, Nat.reduceAdd, Nat.reduceLeDiff, reduceCtorEq]
  refine W_blk (W_loop (fun m e bx own u' => ∃ j : Nat, j ≤ s.lots.length ∧ m = s.lots.length - j ∧ St [(1, .pointer (some ⟨b1, 0, none⟩)), (3, .bool true), (4, ic (sumK s.lots i)), (5, ic i), (6, ic (balB (s.lots.take j) i)), (7, ic j)] [⟨1, b1, [ic s.day, vk, vc, .slice al (s.lots.map lotC).length cl, vv], 27⟩] (fun own u' => u1 = u' ∧ own = []) e bx own u') (m := s.lots.length) ⟨0, by omega, by omega, .mk ⟨rfl, rfl⟩⟩ ?_)
  rintro m e bx own u' ⟨j, hj, rfl, ⟨rfl, rfl⟩⟩
  refine W_seq ?_
  refine W_seq (W_reg ?_)
  simp only [r5_10, sx, Nat.reduceBEq, Nat.reduceAdd, Nat.reduceLeDiff, reduceCtorEq]
  refine W_cnd rfl (fun hc2 => W_skip ?_) (fun hc2 => W_exit ?_)
  · have hltj : j < s.lots.length := by simpa using hc2
    obtain ⟨o, off, rfl, hrr⟩ := hrowl (map_ne hltj)
    have hcell := (SlC_at hrr hlenl (by simpa using hltj)).mono (mpl_mu hle1)
    rw [List.getElem_map] at hcell
    have hst := bal_take (i : Int) hltj
    refine W_seq (W_blk ?_)
    refine W_seq (W_reg ?_)
    simp only [r5_12, r5_12a, r5_12b, r5_12c, r5_12d, sx, Nat.reduceBEq, Nat.reduceAdd, Nat.reduceLeDiff, reduceCtorEq]
    refine ⟨⟨by omega, by simp; omega⟩, _, (hcell.part (i := 3) (r := [ic s.lots[j].owner]) rfl (by simp [lotC])).lrow, rfl, ?_⟩
    simp only [sx, Nat.reduceBEq, Nat.reduceAdd, Nat.reduceLeDiff, reduceCtorEq]
    refine ⟨fun _ => ⟨by omega, by simp; omega⟩, _, fun _ => (hcell.part (i := 6) (r := [ic s.lots[j].spent]) rfl (by simp [lotC])).lrow, rfl, ?_⟩
    simp only [sx, Nat.reduceBEq, Nat.reduceAdd, Nat.reduceLeDiff, reduceCtorEq]
    have hbd : 0 ≤ balB (s.lots.take j) i ∧ balB (s.lots.take j) i ≤ 1048576 * (s.lots.take j).length := bal_bound (fun x hx => hlb x (List.mem_of_mem_take hx)) _
    rw [List.length_take] at hbd
    have hlt3 := lot_ok (hlb _ (List.getElem_mem hltj))
    refine W_cnd rfl (fun hb => ?_) (fun hb => W_skip ?_)
    · refine W_drw (drawOK mixedP) ?_
      simp only [WSD, A.wpD, r5_13, r5_13a, r5_13b, r5_13c, r5_13d, sx, Nat.reduceBEq, Nat.reduceAdd, Nat.reduceLeDiff, reduceCtorEq]
      refine ⟨⟨by omega, by simp; omega⟩, _, (hcell.part (i := 2) (r := [ic s.lots[j].to_]) rfl (by simp [lotC])).lrow, rfl, ?_⟩
      simp only [WSD, A.wpD, sx, Nat.reduceBEq, Nat.reduceAdd, Nat.reduceLeDiff, reduceCtorEq]
      refine ⟨⟨by omega, by simp; omega⟩, _, (hcell.part (i := 1) (r := [ic s.lots[j].from_]) rfl (by simp [lotC])).lrow, rfl, ?_⟩
      simp only [WSD, A.wpD, sx, Nat.reduceBEq, Nat.reduceAdd, Nat.reduceLeDiff, reduceCtorEq]
      rw [wrapI (n := balB (s.lots.take j) i + s.lots[j].to_) (by omega) (by omega), wrapI (by omega) (by omega)]
      rw [if_pos (by simpa using hb)] at hst
      refine W_reg ?_
      simp only [r5_11, sx, Nat.reduceBEq, Nat.reduceAdd, Nat.reduceLeDiff, reduceCtorEq]
      rw [wrapS hltj hmx]
      have : balB (s.lots.take j) i + s.lots[j].to_ - s.lots[j].from_ = balB (s.lots.take (j + 1)) i := by omega
      rw [this]
      exact ⟨_, by omega, j + 1, by omega, rfl, .mk ⟨rfl, rfl⟩⟩
    · refine W_reg ?_
      simp only [r5_11, sx, Nat.reduceBEq, Nat.reduceAdd, Nat.reduceLeDiff, reduceCtorEq]
      rw [wrapS hltj hmx]
      rw [if_neg (by simpa using hb), Int.add_zero] at hst
      rw [← hst]
      exact ⟨_, by omega, j + 1, by omega, rfl, .mk ⟨rfl, rfl⟩⟩
  have hge : ¬ j < s.lots.length := by simpa using hc2
  rw [List.take_of_length_le (by omega)]
  simp only [sx, Nat.reduceBEq, Nat.reduceAdd, Nat.reduceLeDiff, reduceCtorEq]
  refine W_seq ?_
  refine W_seq (W_reg ?_)
  simp only [r5_14, r5_14a, r5_14b, sx, Nat.reduceBEq, Nat.reduceAdd, Nat.reduceLeDiff, reduceCtorEq]
  refine ⟨_, balance_q i hv1 hlo, ?_⟩
  simp only [sx, Nat.reduceBEq, Nat.reduceAdd, Nat.reduceLeDiff, reduceCtorEq]
  refine W_cnd rfl (fun hb => ?_) (fun hb => W_skip ?_)
  · simp at hb
  refine W_reg ?_
  simp only [r5_16, sx, Nat.reduceBEq, Nat.reduceAdd, Nat.reduceLeDiff, reduceCtorEq]
  refine W_reg ?_
  simp only [r5_7, sx, Nat.reduceBEq, Nat.reduceAdd, Nat.reduceLeDiff, reduceCtorEq]
  have h1 := sumK_bound hlb i
  have h2 := bal_bound hlb i
  have h3 : (i : Int) * (1048576 * s.lots.length) ≤ 200 * (1048576 * s.lots.length) := Int.mul_le_mul_of_nonneg_right (by omega) (by omega)
  rw [wrapI (n := sumK s.lots i + balB s.lots i) (by omega) (by omega), wrapS hlt (by unfold maxN; omega)]
  exact ⟨_, by omega, i + 1, by omega, rfl, .mk ⟨rfl, rfl⟩⟩
end Go.Proofs.YtenmmfkgopffgaaGreatDoor

set_option maxRecDepth 4000
namespace Go.Proofs.YtenmmfkgopffgaaGreatDoor
open Go

theorem decEq_len {α : Type} [DecidableEq α] {xs ys : List α} (h : xs.length ≠ ys.length) : decide (xs = ys) = false := by
  simp; intro q; exact h (by rw [q])
theorem decEq_drop {α : Type} [DecidableEq α] {xs ys : List α} {i : Nat} (hx : i < xs.length) (hy : i < ys.length) : decide (xs.drop i = ys.drop i) = (decide (xs[i] = ys[i]) && decide (xs.drop (i + 1) = ys.drop (i + 1))) := by
  have h1 := List.drop_eq_getElem_cons hx
  have h2 := List.drop_eq_getElem_cons hy
  rw [h1, h2, ← Bool.decide_and]
  exact decide_eq_decide.2 (by rw [List.cons.injEq])
theorem eqLots {v w : Value} {xs ys : List Lot} {u : Mem} (hv : SlF 7 lotC (MU u) v xs) (hw : SlF 7 lotC (MU u) w ys) : QFn Tryz.prog 51 [v, w] u (.bool (decide (xs = ys))) := by
  obtain ⟨a, c, rfl, hmax, hcap, hrow, hlen⟩ := hv
  obtain ⟨a2, c2, rfl, hmax2, hcap2, hrow2, hlen2⟩ := hw
  simp only [List.length_map] at hmax hcap hmax2 hcap2
  refine fn51 fun cx hu => ?_
  refine W_seq (W_reg ?_)
  simp only [r51_0, sx, Nat.reduceBEq, Nat.reduceAdd, Nat.reduceLeDiff, reduceCtorEq]
  refine W_seq ?_
  refine W_seq (W_reg ?_)
  simp only [r51_1, sx, Nat.reduceBEq, Nat.reduceAdd, Nat.reduceLeDiff, reduceCtorEq]
  refine W_cnd rfl (fun hc => ?_) (fun hc => W_skip ?_)
  · refine W_seq (W_reg ?_)
    simp only [r51_2, sx, Nat.reduceBEq, Nat.reduceAdd, Nat.reduceLeDiff, reduceCtorEq]
    refine W_ret (RetQ.outQ hu (mle_refl _) rfl trivial ⟨?_, rfl, rfl⟩)
    rw [decEq_len (by simp at hc; omega)]
  have hll : xs.length = ys.length := by simp at hc; omega
  clear hc
  refine W_seq ?_
  refine W_seq (W_reg ?_)
  simp only [r51_3, sx, Nat.reduceBEq, Nat.reduceAdd, Nat.reduceLeDiff, reduceCtorEq]
  refine (W_blk (W_loop (fun m e bx own u' => ∃ i, i ≤ xs.length ∧ m = xs.length - i ∧ St [(0, .slice a xs.length c), (1, .slice a2 ys.length c2), (12, ic xs.length), (13, ic i)] [] (fun own u' => u' = u ∧ decide (xs = ys) = decide (xs.drop i = ys.drop i)) e bx own u') (m := xs.length) ⟨0, by omega, by omega, ?_⟩ ?_))
  · simp only [List.length_map]; exact .mk ⟨rfl, rfl⟩
  rintro m e bx own u' ⟨i, hi, rfl, ⟨rfl, hs⟩⟩
  refine W_seq (W_reg ?_)
  simp only [r51_4, sx, Nat.reduceBEq, Nat.reduceAdd, Nat.reduceLeDiff, reduceCtorEq]
  refine W_seq (W_cnd rfl (fun hc => W_skip ?_) (fun hc => W_exit ?_))
  · have hlt : i < xs.length := by simpa using hc
    have hlt2 : i < ys.length := by omega
    obtain ⟨o, off, rfl, hr⟩ := hrow (map_ne hlt)
    obtain ⟨o2, off2, rfl, hr2⟩ := hrow2 (map_ne hlt2)
    have hcell := SlC_at hr hlen (by simpa using hlt)
    have hcell2 := SlC_at hr2 hlen2 (by simpa using hlt2)
    rw [List.getElem_map] at hcell hcell2
    rw [decEq_drop hlt hlt2] at hs
    refine W_seq (W_blk ?_)
    refine W_seq (W_reg ?_)
    simp only [r51_5, sx, Nat.reduceBEq, Nat.reduceAdd, Nat.reduceLeDiff, reduceCtorEq]
    refine W_seq (W_drw (drawOK mixedP) ?_)
    simp only [WSD, A.wpD, r51_6, r51_6a, r51_6b, r51_6c, r51_6d, lotC, sx, Nat.reduceBEq, Nat.reduceAdd, Nat.reduceLeDiff, reduceCtorEq]
    refine ⟨by omega, lotC xs[i], hcell.lrow, rfl, ?_⟩
    refine ⟨by omega, lotC ys[i], hcell2.lrow, rfl, ?_⟩
    simp only [lotC, kok, k1ok, ceq, c1eq, Bool.and_true, sx, Nat.reduceBEq, Nat.reduceAdd, Nat.reduceLeDiff, reduceCtorEq]
    have hq : (xs[i].mark == ys[i].mark && (xs[i].from_ == ys[i].from_ && (xs[i].to_ == ys[i].to_ && (xs[i].owner == ys[i].owner && (xs[i].holder == ys[i].holder && (xs[i].until_ == ys[i].until_ && xs[i].spent == ys[i].spent)))))) = decide (xs[i] = ys[i]) := by
      generalize xs[i] = x
      generalize ys[i] = y
      rcases x with ⟨⟩; rcases y with ⟨⟩; rw [Bool.eq_iff_iff]; simp [and_assoc]
    rw [hq]
    refine W_cnd rfl (fun hb => ?_) (fun hb => W_skip ?_)
    · refine W_seq (W_reg ?_)
      simp only [r51_7, sx, Nat.reduceBEq, Nat.reduceAdd, Nat.reduceLeDiff, reduceCtorEq]
      refine W_ret (RetQ.outQ hu (mle_refl _) rfl trivial ⟨?_, rfl, rfl⟩)
      have : decide (xs[i] = ys[i]) = false := by simpa using hb
      rw [hs, this]; rfl
    · refine W_reg ?_
      simp only [r51_8, sx, Nat.reduceBEq, Nat.reduceAdd, Nat.reduceLeDiff, reduceCtorEq]
      rw [wrapS hlt hmax]
      refine ⟨_, by omega, i + 1, by omega, rfl, .mk ⟨rfl, ?_⟩⟩
      have : decide (xs[i] = ys[i]) = true := by simpa using hb
      rw [hs, this]; rfl
  · have hge : ¬ i < xs.length := by simpa using hc
    rw [List.drop_eq_nil_of_le (by omega), List.drop_eq_nil_of_le (by omega)] at hs
    refine W_seq (W_reg ?_)
    simp only [r51_9, sx, Nat.reduceBEq, Nat.reduceAdd, Nat.reduceLeDiff, reduceCtorEq]
    refine W_ret (RetQ.outQ hu (mle_refl _) rfl trivial ⟨by rw [hs]; rfl, rfl, rfl⟩)
theorem eqVoids {v w : Value} {xs ys : List Void} {u : Mem} (hv : SlF 2 voidC (MU u) v xs) (hw : SlF 2 voidC (MU u) w ys) : QFn Tryz.prog 52 [v, w] u (.bool (decide (xs = ys))) := by
  obtain ⟨a, c, rfl, hmax, hcap, hrow, hlen⟩ := hv
  obtain ⟨a2, c2, rfl, hmax2, hcap2, hrow2, hlen2⟩ := hw
  simp only [List.length_map] at hmax hcap hmax2 hcap2
  refine fn52 fun cx hu => ?_
  refine W_seq (W_reg ?_)
  simp only [r52_0, sx, Nat.reduceBEq, Nat.reduceAdd, Nat.reduceLeDiff, reduceCtorEq]
  refine W_seq ?_
  refine W_seq (W_reg ?_)
  simp only [r52_1, sx, Nat.reduceBEq, Nat.reduceAdd, Nat.reduceLeDiff, reduceCtorEq]
  refine W_cnd rfl (fun hc => ?_) (fun hc => W_skip ?_)
  · refine W_seq (W_reg ?_)
    simp only [r52_2, sx, Nat.reduceBEq, Nat.reduceAdd, Nat.reduceLeDiff, reduceCtorEq]
    refine W_ret (RetQ.outQ hu (mle_refl _) rfl trivial ⟨?_, rfl, rfl⟩)
    rw [decEq_len (by simp at hc; omega)]
  have hll : xs.length = ys.length := by simp at hc; omega
  clear hc
  refine W_seq ?_
  refine W_seq (W_reg ?_)
  simp only [r52_3, sx, Nat.reduceBEq, Nat.reduceAdd, Nat.reduceLeDiff, reduceCtorEq]
  refine (W_blk (W_loop (fun m e bx own u' => ∃ i, i ≤ xs.length ∧ m = xs.length - i ∧ St [(0, .slice a xs.length c), (1, .slice a2 ys.length c2), (12, ic xs.length), (13, ic i)] [] (fun own u' => u' = u ∧ decide (xs = ys) = decide (xs.drop i = ys.drop i)) e bx own u') (m := xs.length) ⟨0, by omega, by omega, ?_⟩ ?_))
  · simp only [List.length_map]; exact .mk ⟨rfl, rfl⟩
  rintro m e bx own u' ⟨i, hi, rfl, ⟨rfl, hs⟩⟩
  refine W_seq (W_reg ?_)
  simp only [r52_4, sx, Nat.reduceBEq, Nat.reduceAdd, Nat.reduceLeDiff, reduceCtorEq]
  refine W_seq (W_cnd rfl (fun hc => W_skip ?_) (fun hc => W_exit ?_))
  · have hlt : i < xs.length := by simpa using hc
    have hlt2 : i < ys.length := by omega
    obtain ⟨o, off, rfl, hr⟩ := hrow (map_ne hlt)
    obtain ⟨o2, off2, rfl, hr2⟩ := hrow2 (map_ne hlt2)
    have hcell := SlC_at hr hlen (by simpa using hlt)
    have hcell2 := SlC_at hr2 hlen2 (by simpa using hlt2)
    rw [List.getElem_map] at hcell hcell2
    rw [decEq_drop hlt hlt2] at hs
    refine W_seq (W_blk ?_)
    refine W_seq (W_reg ?_)
    simp only [r52_5, sx, Nat.reduceBEq, Nat.reduceAdd, Nat.reduceLeDiff, reduceCtorEq]
    refine W_seq (W_drw (drawOK mixedP) ?_)
    simp only [WSD, A.wpD, r52_6, r52_6a, r52_6b, r52_6c, r52_6d, voidC, sx, Nat.reduceBEq, Nat.reduceAdd, Nat.reduceLeDiff, reduceCtorEq]
    refine ⟨by omega, voidC xs[i], hcell.lrow, rfl, ?_⟩
    refine ⟨by omega, voidC ys[i], hcell2.lrow, rfl, ?_⟩
    simp only [voidC, kok, k1ok, ceq, c1eq, Bool.and_true, sx, Nat.reduceBEq, Nat.reduceAdd, Nat.reduceLeDiff, reduceCtorEq]
    have hq : (xs[i].mark == ys[i].mark && xs[i].err == ys[i].err) = decide (xs[i] = ys[i]) := by
      generalize xs[i] = x
      generalize ys[i] = y
      rcases x with ⟨⟩; rcases y with ⟨⟩; rw [Bool.eq_iff_iff]; simp [and_assoc]
    rw [hq]
    refine W_cnd rfl (fun hb => ?_) (fun hb => W_skip ?_)
    · refine W_seq (W_reg ?_)
      simp only [r52_7, sx, Nat.reduceBEq, Nat.reduceAdd, Nat.reduceLeDiff, reduceCtorEq]
      refine W_ret (RetQ.outQ hu (mle_refl _) rfl trivial ⟨?_, rfl, rfl⟩)
      have : decide (xs[i] = ys[i]) = false := by simpa using hb
      rw [hs, this]; rfl
    · refine W_reg ?_
      simp only [r52_8, sx, Nat.reduceBEq, Nat.reduceAdd, Nat.reduceLeDiff, reduceCtorEq]
      rw [wrapS hlt hmax]
      refine ⟨_, by omega, i + 1, by omega, rfl, .mk ⟨rfl, ?_⟩⟩
      have : decide (xs[i] = ys[i]) = true := by simpa using hb
      rw [hs, this]; rfl
  · have hge : ¬ i < xs.length := by simpa using hc
    rw [List.drop_eq_nil_of_le (by omega), List.drop_eq_nil_of_le (by omega)] at hs
    refine W_seq (W_reg ?_)
    simp only [r52_9, sx, Nat.reduceBEq, Nat.reduceAdd, Nat.reduceLeDiff, reduceCtorEq]
    refine W_ret (RetQ.outQ hu (mle_refl _) rfl trivial ⟨by rw [hs]; rfl, rfl, rfl⟩)
theorem eqPaid {v w : Value} {xs ys : List Paid} {u : Mem} (hv : SlF 5 paidC (MU u) v xs) (hw : SlF 5 paidC (MU u) w ys) : QFn Tryz.prog 96 [v, w] u (.bool (decide (xs = ys))) := by
  obtain ⟨a, c, rfl, hmax, hcap, hrow, hlen⟩ := hv
  obtain ⟨a2, c2, rfl, hmax2, hcap2, hrow2, hlen2⟩ := hw
  simp only [List.length_map] at hmax hcap hmax2 hcap2
  refine fn96 fun cx hu => ?_
  refine W_seq (W_reg ?_)
  simp only [r96_0, sx, Nat.reduceBEq, Nat.reduceAdd, Nat.reduceLeDiff, reduceCtorEq]
  refine W_seq ?_
  refine W_seq (W_reg ?_)
  simp only [r96_1, sx, Nat.reduceBEq, Nat.reduceAdd, Nat.reduceLeDiff, reduceCtorEq]
  refine W_cnd rfl (fun hc => ?_) (fun hc => W_skip ?_)
  · refine W_seq (W_reg ?_)
    simp only [r96_2, sx, Nat.reduceBEq, Nat.reduceAdd, Nat.reduceLeDiff, reduceCtorEq]
    refine W_ret (RetQ.outQ hu (mle_refl _) rfl trivial ⟨?_, rfl, rfl⟩)
    rw [decEq_len (by simp at hc; omega)]
  have hll : xs.length = ys.length := by simp at hc; omega
  clear hc
  refine W_seq ?_
  refine W_seq (W_reg ?_)
  simp only [r96_3, sx, Nat.reduceBEq, Nat.reduceAdd, Nat.reduceLeDiff, reduceCtorEq]
  refine (W_blk (W_loop (fun m e bx own u' => ∃ i, i ≤ xs.length ∧ m = xs.length - i ∧ St [(0, .slice a xs.length c), (1, .slice a2 ys.length c2), (12, ic xs.length), (13, ic i)] [] (fun own u' => u' = u ∧ decide (xs = ys) = decide (xs.drop i = ys.drop i)) e bx own u') (m := xs.length) ⟨0, by omega, by omega, ?_⟩ ?_))
  · simp only [List.length_map]; exact .mk ⟨rfl, rfl⟩
  rintro m e bx own u' ⟨i, hi, rfl, ⟨rfl, hs⟩⟩
  refine W_seq (W_reg ?_)
  simp only [r96_4, sx, Nat.reduceBEq, Nat.reduceAdd, Nat.reduceLeDiff, reduceCtorEq]
  refine W_seq (W_cnd rfl (fun hc => W_skip ?_) (fun hc => W_exit ?_))
  · have hlt : i < xs.length := by simpa using hc
    have hlt2 : i < ys.length := by omega
    obtain ⟨o, off, rfl, hr⟩ := hrow (map_ne hlt)
    obtain ⟨o2, off2, rfl, hr2⟩ := hrow2 (map_ne hlt2)
    have hcell := SlC_at hr hlen (by simpa using hlt)
    have hcell2 := SlC_at hr2 hlen2 (by simpa using hlt2)
    rw [List.getElem_map] at hcell hcell2
    rw [decEq_drop hlt hlt2] at hs
    refine W_seq (W_blk ?_)
    refine W_seq (W_reg ?_)
    simp only [r96_5, sx, Nat.reduceBEq, Nat.reduceAdd, Nat.reduceLeDiff, reduceCtorEq]
    refine W_seq (W_drw (drawOK mixedP) ?_)
    simp only [WSD, A.wpD, r96_6, r96_6a, r96_6b, r96_6c, r96_6d, paidC, sx, Nat.reduceBEq, Nat.reduceAdd, Nat.reduceLeDiff, reduceCtorEq]
    refine ⟨by omega, paidC xs[i], hcell.lrow, rfl, ?_⟩
    refine ⟨by omega, paidC ys[i], hcell2.lrow, rfl, ?_⟩
    simp only [paidC, kok, k1ok, ceq, c1eq, Bool.and_true, sx, Nat.reduceBEq, Nat.reduceAdd, Nat.reduceLeDiff, reduceCtorEq]
    have hq : (xs[i].mark == ys[i].mark && (xs[i].who == ys[i].who && (xs[i].period == ys[i].period && (xs[i].day == ys[i].day && xs[i].n == ys[i].n)))) = decide (xs[i] = ys[i]) := by
      generalize xs[i] = x
      generalize ys[i] = y
      rcases x with ⟨⟩; rcases y with ⟨⟩; rw [Bool.eq_iff_iff]; simp [and_assoc]
    rw [hq]
    refine W_cnd rfl (fun hb => ?_) (fun hb => W_skip ?_)
    · refine W_seq (W_reg ?_)
      simp only [r96_7, sx, Nat.reduceBEq, Nat.reduceAdd, Nat.reduceLeDiff, reduceCtorEq]
      refine W_ret (RetQ.outQ hu (mle_refl _) rfl trivial ⟨?_, rfl, rfl⟩)
      have : decide (xs[i] = ys[i]) = false := by simpa using hb
      rw [hs, this]; rfl
    · refine W_reg ?_
      simp only [r96_8, sx, Nat.reduceBEq, Nat.reduceAdd, Nat.reduceLeDiff, reduceCtorEq]
      rw [wrapS hlt hmax]
      refine ⟨_, by omega, i + 1, by omega, rfl, .mk ⟨rfl, ?_⟩⟩
      have : decide (xs[i] = ys[i]) = true := by simpa using hb
      rw [hs, this]; rfl
  · have hge : ¬ i < xs.length := by simpa using hc
    rw [List.drop_eq_nil_of_le (by omega), List.drop_eq_nil_of_le (by omega)] at hs
    refine W_seq (W_reg ?_)
    simp only [r96_9, sx, Nat.reduceBEq, Nat.reduceAdd, Nat.reduceLeDiff, reduceCtorEq]
    refine W_ret (RetQ.outQ hu (mle_refl _) rfl trivial ⟨by rw [hs]; rfl, rfl, rfl⟩)
theorem eqBids {v w : Value} {xs ys : List Bid} {u : Mem} (hv : SlF 4 bidC (MU u) v xs) (hw : SlF 4 bidC (MU u) w ys) : QFn Tryz.prog 97 [v, w] u (.bool (decide (xs = ys))) := by
  obtain ⟨a, c, rfl, hmax, hcap, hrow, hlen⟩ := hv
  obtain ⟨a2, c2, rfl, hmax2, hcap2, hrow2, hlen2⟩ := hw
  simp only [List.length_map] at hmax hcap hmax2 hcap2
  refine fn97 fun cx hu => ?_
  refine W_seq (W_reg ?_)
  simp only [r97_0, sx, Nat.reduceBEq, Nat.reduceAdd, Nat.reduceLeDiff, reduceCtorEq]
  refine W_seq ?_
  refine W_seq (W_reg ?_)
  simp only [r97_1, sx, Nat.reduceBEq, Nat.reduceAdd, Nat.reduceLeDiff, reduceCtorEq]
  refine W_cnd rfl (fun hc => ?_) (fun hc => W_skip ?_)
  · refine W_seq (W_reg ?_)
    simp only [r97_2, sx, Nat.reduceBEq, Nat.reduceAdd, Nat.reduceLeDiff, reduceCtorEq]
    refine W_ret (RetQ.outQ hu (mle_refl _) rfl trivial ⟨?_, rfl, rfl⟩)
    rw [decEq_len (by simp at hc; omega)]
  have hll : xs.length = ys.length := by simp at hc; omega
  clear hc
  refine W_seq ?_
  refine W_seq (W_reg ?_)
  simp only [r97_3, sx, Nat.reduceBEq, Nat.reduceAdd, Nat.reduceLeDiff, reduceCtorEq]
  refine (W_blk (W_loop (fun m e bx own u' => ∃ i, i ≤ xs.length ∧ m = xs.length - i ∧ St [(0, .slice a xs.length c), (1, .slice a2 ys.length c2), (12, ic xs.length), (13, ic i)] [] (fun own u' => u' = u ∧ decide (xs = ys) = decide (xs.drop i = ys.drop i)) e bx own u') (m := xs.length) ⟨0, by omega, by omega, ?_⟩ ?_))
  · simp only [List.length_map]; exact .mk ⟨rfl, rfl⟩
  rintro m e bx own u' ⟨i, hi, rfl, ⟨rfl, hs⟩⟩
  refine W_seq (W_reg ?_)
  simp only [r97_4, sx, Nat.reduceBEq, Nat.reduceAdd, Nat.reduceLeDiff, reduceCtorEq]
  refine W_seq (W_cnd rfl (fun hc => W_skip ?_) (fun hc => W_exit ?_))
  · have hlt : i < xs.length := by simpa using hc
    have hlt2 : i < ys.length := by omega
    obtain ⟨o, off, rfl, hr⟩ := hrow (map_ne hlt)
    obtain ⟨o2, off2, rfl, hr2⟩ := hrow2 (map_ne hlt2)
    have hcell := SlC_at hr hlen (by simpa using hlt)
    have hcell2 := SlC_at hr2 hlen2 (by simpa using hlt2)
    rw [List.getElem_map] at hcell hcell2
    rw [decEq_drop hlt hlt2] at hs
    refine W_seq (W_blk ?_)
    refine W_seq (W_reg ?_)
    simp only [r97_5, sx, Nat.reduceBEq, Nat.reduceAdd, Nat.reduceLeDiff, reduceCtorEq]
    refine W_seq (W_drw (drawOK mixedP) ?_)
    simp only [WSD, A.wpD, r97_6, r97_6a, r97_6b, r97_6c, r97_6d, bidC, sx, Nat.reduceBEq, Nat.reduceAdd, Nat.reduceLeDiff, reduceCtorEq]
    refine ⟨by omega, bidC xs[i], hcell.lrow, rfl, ?_⟩
    refine ⟨by omega, bidC ys[i], hcell2.lrow, rfl, ?_⟩
    simp only [bidC, kok, k1ok, ceq, c1eq, Bool.and_true, sx, Nat.reduceBEq, Nat.reduceAdd, Nat.reduceLeDiff, reduceCtorEq]
    have hq : (xs[i].mark == ys[i].mark && (xs[i].who == ys[i].who && (xs[i].n == ys[i].n && xs[i].op == ys[i].op))) = decide (xs[i] = ys[i]) := by
      generalize xs[i] = x
      generalize ys[i] = y
      rcases x with ⟨⟩; rcases y with ⟨⟩; rw [Bool.eq_iff_iff]; simp [and_assoc]
    rw [hq]
    refine W_cnd rfl (fun hb => ?_) (fun hb => W_skip ?_)
    · refine W_seq (W_reg ?_)
      simp only [r97_7, sx, Nat.reduceBEq, Nat.reduceAdd, Nat.reduceLeDiff, reduceCtorEq]
      refine W_ret (RetQ.outQ hu (mle_refl _) rfl trivial ⟨?_, rfl, rfl⟩)
      have : decide (xs[i] = ys[i]) = false := by simpa using hb
      rw [hs, this]; rfl
    · refine W_reg ?_
      simp only [r97_8, sx, Nat.reduceBEq, Nat.reduceAdd, Nat.reduceLeDiff, reduceCtorEq]
      rw [wrapS hlt hmax]
      refine ⟨_, by omega, i + 1, by omega, rfl, .mk ⟨rfl, ?_⟩⟩
      have : decide (xs[i] = ys[i]) = true := by simpa using hb
      rw [hs, this]; rfl
  · have hge : ¬ i < xs.length := by simpa using hc
    rw [List.drop_eq_nil_of_le (by omega), List.drop_eq_nil_of_le (by omega)] at hs
    refine W_seq (W_reg ?_)
    simp only [r97_9, sx, Nat.reduceBEq, Nat.reduceAdd, Nat.reduceLeDiff, reduceCtorEq]
    refine W_ret (RetQ.outQ hu (mle_refl _) rfl trivial ⟨by rw [hs]; rfl, rfl, rfl⟩)
theorem eqVoices {v w : Value} {xs ys : List Voice} {u : Mem} (hv : SlF 4 voiceC (MU u) v xs) (hw : SlF 4 voiceC (MU u) w ys) : QFn Tryz.prog 100 [v, w] u (.bool (decide (xs = ys))) := by
  obtain ⟨a, c, rfl, hmax, hcap, hrow, hlen⟩ := hv
  obtain ⟨a2, c2, rfl, hmax2, hcap2, hrow2, hlen2⟩ := hw
  simp only [List.length_map] at hmax hcap hmax2 hcap2
  refine fn100 fun cx hu => ?_
  refine W_seq (W_reg ?_)
  simp only [r100_0, sx, Nat.reduceBEq, Nat.reduceAdd, Nat.reduceLeDiff, reduceCtorEq]
  refine W_seq ?_
  refine W_seq (W_reg ?_)
  simp only [r100_1, sx, Nat.reduceBEq, Nat.reduceAdd, Nat.reduceLeDiff, reduceCtorEq]
  refine W_cnd rfl (fun hc => ?_) (fun hc => W_skip ?_)
  · refine W_seq (W_reg ?_)
    simp only [r100_2, sx, Nat.reduceBEq, Nat.reduceAdd, Nat.reduceLeDiff, reduceCtorEq]
    refine W_ret (RetQ.outQ hu (mle_refl _) rfl trivial ⟨?_, rfl, rfl⟩)
    rw [decEq_len (by simp at hc; omega)]
  have hll : xs.length = ys.length := by simp at hc; omega
  clear hc
  refine W_seq ?_
  refine W_seq (W_reg ?_)
  simp only [r100_3, sx, Nat.reduceBEq, Nat.reduceAdd, Nat.reduceLeDiff, reduceCtorEq]
  refine (W_blk (W_loop (fun m e bx own u' => ∃ i, i ≤ xs.length ∧ m = xs.length - i ∧ St [(0, .slice a xs.length c), (1, .slice a2 ys.length c2), (12, ic xs.length), (13, ic i)] [] (fun own u' => u' = u ∧ decide (xs = ys) = decide (xs.drop i = ys.drop i)) e bx own u') (m := xs.length) ⟨0, by omega, by omega, ?_⟩ ?_))
  · simp only [List.length_map]; exact .mk ⟨rfl, rfl⟩
  rintro m e bx own u' ⟨i, hi, rfl, ⟨rfl, hs⟩⟩
  refine W_seq (W_reg ?_)
  simp only [r100_4, sx, Nat.reduceBEq, Nat.reduceAdd, Nat.reduceLeDiff, reduceCtorEq]
  refine W_seq (W_cnd rfl (fun hc => W_skip ?_) (fun hc => W_exit ?_))
  · have hlt : i < xs.length := by simpa using hc
    have hlt2 : i < ys.length := by omega
    obtain ⟨o, off, rfl, hr⟩ := hrow (map_ne hlt)
    obtain ⟨o2, off2, rfl, hr2⟩ := hrow2 (map_ne hlt2)
    have hcell := SlC_at hr hlen (by simpa using hlt)
    have hcell2 := SlC_at hr2 hlen2 (by simpa using hlt2)
    rw [List.getElem_map] at hcell hcell2
    rw [decEq_drop hlt hlt2] at hs
    refine W_seq (W_blk ?_)
    refine W_seq (W_reg ?_)
    simp only [r100_5, sx, Nat.reduceBEq, Nat.reduceAdd, Nat.reduceLeDiff, reduceCtorEq]
    refine W_seq (W_drw (drawOK mixedP) ?_)
    simp only [WSD, A.wpD, r100_6, r100_6a, r100_6b, r100_6c, r100_6d, voiceC, sx, Nat.reduceBEq, Nat.reduceAdd, Nat.reduceLeDiff, reduceCtorEq]
    refine ⟨by omega, voiceC xs[i], hcell.lrow, rfl, ?_⟩
    refine ⟨by omega, voiceC ys[i], hcell2.lrow, rfl, ?_⟩
    simp only [voiceC, kok, k1ok, ceq, c1eq, Bool.and_true, sx, Nat.reduceBEq, Nat.reduceAdd, Nat.reduceLeDiff, reduceCtorEq]
    have hq : (xs[i].mark == ys[i].mark && (xs[i].who == ys[i].who && (xs[i].yes == ys[i].yes && xs[i].day == ys[i].day))) = decide (xs[i] = ys[i]) := by
      generalize xs[i] = x
      generalize ys[i] = y
      rcases x with ⟨⟩; rcases y with ⟨⟩; rw [Bool.eq_iff_iff]; simp [and_assoc]
    rw [hq]
    refine W_cnd rfl (fun hb => ?_) (fun hb => W_skip ?_)
    · refine W_seq (W_reg ?_)
      simp only [r100_7, sx, Nat.reduceBEq, Nat.reduceAdd, Nat.reduceLeDiff, reduceCtorEq]
      refine W_ret (RetQ.outQ hu (mle_refl _) rfl trivial ⟨?_, rfl, rfl⟩)
      have : decide (xs[i] = ys[i]) = false := by simpa using hb
      rw [hs, this]; rfl
    · refine W_reg ?_
      simp only [r100_8, sx, Nat.reduceBEq, Nat.reduceAdd, Nat.reduceLeDiff, reduceCtorEq]
      rw [wrapS hlt hmax]
      refine ⟨_, by omega, i + 1, by omega, rfl, .mk ⟨rfl, ?_⟩⟩
      have : decide (xs[i] = ys[i]) = true := by simpa using hb
      rw [hs, this]; rfl
  · have hge : ¬ i < xs.length := by simpa using hc
    rw [List.drop_eq_nil_of_le (by omega), List.drop_eq_nil_of_le (by omega)] at hs
    refine W_seq (W_reg ?_)
    simp only [r100_9, sx, Nat.reduceBEq, Nat.reduceAdd, Nat.reduceLeDiff, reduceCtorEq]
    refine W_ret (RetQ.outQ hu (mle_refl _) rfl trivial ⟨by rw [hs]; rfl, rfl, rfl⟩)
theorem eqInts {v w : Value} {xs ys : List Int} {u : Mem} (hv : SlF 1 i1 (MU u) v xs) (hw : SlF 1 i1 (MU u) w ys) : QFn Tryz.prog 48 [v, w] u (.bool (decide (xs = ys))) := by
  obtain ⟨a, c, rfl, hmax, hcap, hrow, hlen⟩ := hv
  obtain ⟨a2, c2, rfl, hmax2, hcap2, hrow2, hlen2⟩ := hw
  simp only [List.length_map] at hmax hcap hmax2 hcap2
  refine fn48 fun cx hu => ?_
  refine W_seq (W_reg ?_)
  simp only [r48_0, sx, Nat.reduceBEq, Nat.reduceAdd, Nat.reduceLeDiff, reduceCtorEq]
  refine W_seq ?_
  refine W_seq (W_reg ?_)
  simp only [r48_1, sx, Nat.reduceBEq, Nat.reduceAdd, Nat.reduceLeDiff, reduceCtorEq]
  refine W_cnd rfl (fun hc => ?_) (fun hc => W_skip ?_)
  · refine W_seq (W_reg ?_)
    simp only [r48_2, sx, Nat.reduceBEq, Nat.reduceAdd, Nat.reduceLeDiff, reduceCtorEq]
    refine W_ret (RetQ.outQ hu (mle_refl _) rfl trivial ⟨?_, rfl, rfl⟩)
    rw [decEq_len (by simp at hc; omega)]
  have hll : xs.length = ys.length := by simp at hc; omega
  clear hc
  refine W_seq ?_
  refine W_seq (W_reg ?_)
  simp only [r48_3, sx, Nat.reduceBEq, Nat.reduceAdd, Nat.reduceLeDiff, reduceCtorEq]
  refine (W_blk (W_loop (fun m e bx own u' => ∃ i, i ≤ xs.length ∧ m = xs.length - i ∧ St [(0, .slice a xs.length c), (1, .slice a2 ys.length c2), (12, ic xs.length), (13, ic i)] [] (fun own u' => u' = u ∧ decide (xs = ys) = decide (xs.drop i = ys.drop i)) e bx own u') (m := xs.length) ⟨0, by omega, by omega, ?_⟩ ?_))
  · simp only [List.length_map]; exact .mk ⟨rfl, rfl⟩
  rintro m e bx own u' ⟨i, hi, rfl, ⟨rfl, hs⟩⟩
  refine W_seq (W_reg ?_)
  simp only [r48_4, sx, Nat.reduceBEq, Nat.reduceAdd, Nat.reduceLeDiff, reduceCtorEq]
  refine W_seq (W_cnd rfl (fun hc => W_skip ?_) (fun hc => W_exit ?_))
  · have hlt : i < xs.length := by simpa using hc
    have hlt2 : i < ys.length := by omega
    obtain ⟨o, off, rfl, hr⟩ := hrow (map_ne hlt)
    obtain ⟨o2, off2, rfl, hr2⟩ := hrow2 (map_ne hlt2)
    have hcell := SlC_at hr hlen (by simpa using hlt)
    have hcell2 := SlC_at hr2 hlen2 (by simpa using hlt2)
    rw [List.getElem_map] at hcell hcell2
    rw [decEq_drop hlt hlt2] at hs
    refine W_seq (W_blk ?_)
    refine W_seq (W_reg ?_)
    simp only [r48_5, sx, Nat.reduceBEq, Nat.reduceAdd, Nat.reduceLeDiff, reduceCtorEq]
    refine W_seq (W_drw (drawOK mixedP) ?_)
    simp only [WSD, A.wpD, r48_6, r48_6a, r48_6b, r48_6c, r48_6d, i1, sx, Nat.reduceBEq, Nat.reduceAdd, Nat.reduceLeDiff, reduceCtorEq]
    refine ⟨by omega, i1 xs[i], hcell.lrow, rfl, ?_⟩
    refine ⟨by omega, i1 ys[i], hcell2.lrow, rfl, ?_⟩
    simp only [i1, kok, k1ok, ceq, c1eq, Bool.and_true, sx, Nat.reduceBEq, Nat.reduceAdd, Nat.reduceLeDiff, reduceCtorEq]
    have hq : (xs[i] == ys[i]) = decide (xs[i] = ys[i]) := by
      generalize xs[i] = x
      generalize ys[i] = y
      rw [Bool.eq_iff_iff]; simp
    simp only [bne]; rw [hq]
    refine W_cnd rfl (fun hb => ?_) (fun hb => W_skip ?_)
    · refine W_seq (W_reg ?_)
      simp only [r48_7, sx, Nat.reduceBEq, Nat.reduceAdd, Nat.reduceLeDiff, reduceCtorEq]
      refine W_ret (RetQ.outQ hu (mle_refl _) rfl trivial ⟨?_, rfl, rfl⟩)
      have : decide (xs[i] = ys[i]) = false := by simpa using hb
      rw [hs, this]; rfl
    · refine W_reg ?_
      simp only [r48_8, sx, Nat.reduceBEq, Nat.reduceAdd, Nat.reduceLeDiff, reduceCtorEq]
      rw [wrapS hlt hmax]
      refine ⟨_, by omega, i + 1, by omega, rfl, .mk ⟨rfl, ?_⟩⟩
      have : decide (xs[i] = ys[i]) = true := by simpa using hb
      rw [hs, this]; rfl
  · have hge : ¬ i < xs.length := by simpa using hc
    rw [List.drop_eq_nil_of_le (by omega), List.drop_eq_nil_of_le (by omega)] at hs
    refine W_seq (W_reg ?_)
    simp only [r48_9, sx, Nat.reduceBEq, Nat.reduceAdd, Nat.reduceLeDiff, reduceCtorEq]
    refine W_ret (RetQ.outQ hu (mle_refl _) rfl trivial ⟨by rw [hs]; rfl, rfl, rfl⟩)
end Go.Proofs.YtenmmfkgopffgaaGreatDoor
