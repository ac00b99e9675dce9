/- Part 31 of the proofs that the program's StateBack and StateBalance return true (texts Td Ua Ub joined): what its functions compute. -/
import Derived.Test.YtenmmfkgopffgaaGreatDoorMbd
import Derived.Test.YtenmmfkgopffgaaGreatDoorMal
import Derived.Test.YtenmmfkgopffgaaGreatDoorRows
import Derived.Deep.Slices
import Derived.OpenShut
set_option linter.unusedVariables false
set_option linter.unusedSimpArgs false
set_option maxRecDepth 4000
set_option linter.unnecessarySimpa false
namespace Go.Proofs.YtenmmfkgopffgaaGreatDoor
open Go

def smallT : Str := [51, 59, 50, 91, 49, 59, 50, 59, 93, 48, 59, 49, 59, 55, 59, 48, 59, 53, 59, 50, 59, 49, 59, 57, 59, 45, 49, 59, 49, 59, 56, 59, 49, 59]
def smallT1 : Str := [51, 59, 50, 91, 49, 59, 49, 59, 93, 48, 59, 49, 59, 55, 59, 48, 59, 53, 59, 50, 59, 49, 59, 57, 59, 45, 49, 59, 49, 59, 56, 59, 49, 59]
def cS : Circle := ⟨4, 0, ⟨#[120]⟩, 0, 0, [⟨1, 0, [2], 0, 0⟩, ⟨2, 0, [], 0, 0⟩], [], [], [-1], [5], [0], [⟨6, 0, 0, [⟨7, 2, true, 0⟩], 0⟩], [⟨5, 0, 1, 9, 0, 0, 0, [], [], 0, 0, 0⟩], 0, false⟩
def uS : State := { sampleS with circles := [cS] }
theorem sample_right : rightB sampleS = true := by decide
theorem u_right : rightB uS = true := by decide
theorem sample_few : fewB sampleS = true := by decide
theorem u_few : fewB uS = true := by decide
theorem sample_text : textB sampleS = smallT := by decide
theorem small_read1 : readB smallT1 = (zeroS, 2) := by decide
theorem zero_text : textB zeroS = [48, 59, 48, 91, 93, 48, 59, 48, 59, 48, 59] := by decide
theorem bal_2 : balB sampleS.lots 2 = 5 := by decide
theorem bal_1 : balB sampleS.lots 1 = 0 := by decide
theorem zero_few : fewB zeroS = true := by decide
theorem lit0 : (⟨#[48, 59, 48, 91, 93, 48, 59, 48, 59, 48, 59]⟩ : ByteArray).toList = [48, 59, 48, 91, 93, 48, 59, 48, 59, 48, 59] := ba_list [48, 59, 48, 91, 93, 48, 59, 48, 59, 48, 59]
theorem litT : (⟨#[51, 59, 50, 91, 49, 59, 50, 59, 93, 48, 59, 49, 59, 55, 59, 48, 59, 53, 59, 50, 59, 49, 59, 57, 59, 45, 49, 59, 49, 59, 56, 59, 49, 59]⟩ : ByteArray).toList = smallT := ba_list smallT
theorem sample_ne : decide (sampleS = uS) = false := by decide
theorem sample_lots : lotsB none sampleS.lots = true := by decide
theorem one1 : (((1 : Nat) : Int) == 1) = true := rfl
theorem find_cS : (uS.circles.find? fun m => m.id == 4) = some cS := by decide
theorem find_mS : (cS.members.find? fun m => m.key == 2) = some ⟨2, 0, [], 0, 0⟩ := by decide
theorem find_pS : ((uS.circles.flatMap fun c => c.op).find? fun m => m.mark == 6) = some ⟨6, 0, 0, [⟨7, 2, true, 0⟩], 0⟩ := by decide
theorem find_xS : ((uS.circles.flatMap fun c => c.claims).find? fun m => m.mark == 5) = some ⟨5, 0, 1, 9, 0, 0, 0, [], [], 0, 0, 0⟩ := by decide
theorem find_nS : (sampleS.circles.find? fun m => m.id == 4) = none := by decide
attribute [local irreducible] textB readB rightB fewB balB in
set_option maxHeartbeats 1000000 in
theorem small_c : smallOk := fun u g => by
  refine fn6 fun cx hu => ?_
  refine W_seq (W_reg ?_)
  simp only [r6_0, sx, Nat.reduceBEq, Nat.reduceAdd, Nat.reduceLeDiff, reduceCtorEq]
  refine W_seq (W_reg ?_)
  simp only [r6_1, r6_1a, r6_1b, sx, Nat.reduceBEq, Nat.reduceAdd, Nat.reduceLeDiff, reduceCtorEq]
  refine CallW.u sample_c ?_
  rintro v1 own' u1 ⟨rfl, cs1, rfl, h1⟩ hle1
  obtain ⟨vk, vc, vl, vv, rfl, hk, hc, hl, hvd⟩ := id h1
  have g1 := g.mono hle1
  try simp only [sx, Nat.reduceBEq, Nat.reduceAdd, Nat.reduceLeDiff, reduceCtorEq]
  intro b1
  refine ⟨⟨hk.one, hc.one, hl.one, hvd.one⟩, ?_⟩
  refine W_seq (W_reg ?_)
  simp only [r6_2, r6_2a, r6_2b, r6_2c, r6_2d, sx, Nat.reduceBEq, Nat.reduceAdd, Nat.reduceLeDiff, reduceCtorEq]
  refine CallW.u (read_c (t := smallT) g1 (by unfold maxR; decide)) ?_
  rintro v2 own' u2 ⟨cs2, rfl, rfl, h2⟩ hle2
  have g2 := g1.mono hle2
  rw [← sample_text, read_text sample_right (sz_of_few sample_few)] at h2 ⊢
  obtain ⟨vk2, vc2, vl2, vv2, rfl, hk2, hc2, hl2, hvd2⟩ := id h2
  try simp only [sx, Nat.reduceBEq, Nat.reduceAdd, Nat.reduceLeDiff, reduceCtorEq]
  intro b2
  refine ⟨⟨hk2.one, hc2.one, hl2.one, hvd2.one⟩, ?_⟩
  refine W_seq (W_reg ?_)
  simp only [r6_3, r6_3a, r6_3b, r6_3c, r6_3d, sx, Nat.reduceBEq, Nat.reduceAdd, Nat.reduceLeDiff, reduceCtorEq]
  refine CallW.u (read_c (t := smallT1) g2 (by unfold maxR; decide)) ?_
  rintro v3 own' u3 ⟨cs3, rfl, rfl, h3⟩ hle3
  have g3 := g2.mono hle3
  rw [small_read1] at h3 ⊢
  obtain ⟨vk3, vc3, vl3, vv3, rfl, hk3, hc3, hl3, hvd3⟩ := id h3
  try simp only [sx, Nat.reduceBEq, Nat.reduceAdd, Nat.reduceLeDiff, reduceCtorEq]
  refine ⟨⟨hk3.one, hc3.one, hl3.one, hvd3.one⟩, ?_⟩
  refine W_seq (W_reg ?_)
  simp only [r6_4, mksV, sx, Nat.reduceBEq, Nat.reduceAdd, Nat.reduceLeDiff, reduceCtorEq]
  refine .inl ⟨by simp [lenAll, vcells], fun blk1 w1 hla1 hua1 => ?_⟩
  simp only [r6_4a, r6_4b, mksV, sx, Nat.reduceBEq, Nat.reduceAdd, Nat.reduceLeDiff, reduceCtorEq]
  refine .inl ⟨by simp [lenAll, vcells], fun blk2 w2 hla2 hua2 => ?_⟩
  simp only [r6_4c, mksV, sx, Nat.reduceBEq, Nat.reduceAdd, Nat.reduceLeDiff, reduceCtorEq]
  refine .inl ⟨by simp [lenAll, vcells], fun blk3 w3 hla3 hua3 => ?_⟩
  simp only [r6_4d, mksV, sx, Nat.reduceBEq, Nat.reduceAdd, Nat.reduceLeDiff, reduceCtorEq]
  refine .inl ⟨by simp [lenAll, vcells], fun blk4 w4 hla4 hua4 => ?_⟩
  simp only [r6_4e, mksV, sx, Nat.reduceBEq, Nat.reduceAdd, Nat.reduceLeDiff, reduceCtorEq]
  refine .inl ⟨by simp [lenAll, vcells], fun blk5 w5 hla5 hua5 => ?_⟩
  simp only [r6_4f, r6_4g, mksV, sx, Nat.reduceBEq, Nat.reduceAdd, Nat.reduceLeDiff, reduceCtorEq]
  refine .inl ⟨by simp [lenAll, vcells], fun blk6 w6 hla6 hua6 => ?_⟩
  simp only [r6_4h, r6_4i, mksV, sx, Nat.reduceBEq, Nat.reduceAdd, Nat.reduceLeDiff, reduceCtorEq]
  refine .inl ⟨by simp [lenAll, vcells], fun blk7 w7 hla7 hua7 => ?_⟩
  simp only [r6_4j, r6_4k, mksV, sx, Nat.reduceBEq, Nat.reduceAdd, Nat.reduceLeDiff, reduceCtorEq]
  refine .inl ⟨by simp [lenAll, vcells], fun blk8 w8 hla8 hua8 => ?_⟩
  simp only [r6_4l, r6_4m, r6_4n, mksV, sx, Nat.reduceBEq, Nat.reduceAdd, Nat.reduceLeDiff, reduceCtorEq]
  intro b6
  have m7 := hla8
  have m6 := mle_trans hla7 m7
  have m5 := mle_trans hla6 m6
  have m4 := mle_trans hla5 m5
  have m3 := mle_trans hla4 m4
  have m2 := mle_trans hla3 m3
  have m1 := mle_trans hla2 m2
  have mm := mle_trans hla1 m1
  have hC : circleR (MU w8) [ic 4, ic 0, .string ⟨#[120]⟩, ic 0, ic 0, .slice (some ⟨blk2, 0, none⟩) 2 2, .slice none 0 0, .slice none 0 0, .slice (some ⟨blk3, 0, none⟩) 1 1, .slice (some ⟨blk4, 0, none⟩) 1 1, .slice (some ⟨blk5, 0, none⟩) 1 1, .slice (some ⟨blk7, 0, none⟩) 1 1, .slice (some ⟨blk8, 0, none⟩) 1 1, ic 0, .bool false] cS := by
    refine ⟨_, _, _, _, _, _, _, _, rfl, by decide, ⟨[[ic 1, ic 0, .slice (some ⟨blk1, 0, none⟩) 1 1, ic 0, ic 0], [ic 2, ic 0, .slice none 0 0, ic 0, ic 0]], slc_new (m2 _ _ hua2) rfl rfl (by simp [maxN]) (by simp), ⟨_, rfl, ?_⟩, ⟨_, rfl, slc_nil⟩, trivial⟩, slc_nil, slc_nil, ?_, ?_, ?_, ⟨[[ic 6, ic 0, ic 0, .slice (some ⟨blk6, 0, none⟩) 1 1, ic 0]], slc_new (m7 _ _ hua7) rfl rfl (by simp [maxN]) (by simp), ⟨_, rfl, ?_⟩, trivial⟩, ⟨[[ic 5, ic 0, ic 1, ic 9, ic 0, ic 0, ic 0, .slice none 0 0, .slice none 0 0, ic 0, ic 0, ic 0]], slc_new hua8 rfl rfl (by simp [maxN]) (by simp), ⟨_, _, rfl, slc_nil, slc_nil⟩, trivial⟩⟩
    · exact slc_new (m1 _ _ hua1) rfl rfl (by simp [maxN]) (by simp [i1])
    · exact slc_new (m3 _ _ hua3) rfl rfl (by simp [maxN]) (by simp [i1])
    · exact slc_new (m4 _ _ hua4) rfl rfl (by simp [maxN]) (by simp [i1])
    · exact slc_new (m5 _ _ hua5) rfl rfl (by simp [maxN]) (by simp [i1])
    · exact slc_new (m6 _ _ hua6) rfl rfl (by simp [maxN]) (by simp [voiceC])
  have g8 := g3.mono mm
  have h18 := h1.mono (mpl_mu (mle_trans hle2 (mle_trans hle3 mm)))
  have h28 := h2.mono (mpl_mu (mle_trans hle3 mm))
  clear hua1 hua2 hua3 hua4 hua5 hua6 hua7 hua8 hla1 hla2 hla3 hla4 hla5 hla6 hla7 hla8 m1 m2 m3 m4 m5 m6 m7 mm
  refine W_seq (W_reg ?_)
  simp only [r6_5, r6_5a, r6_5b, r6_5c, sx, Nat.reduceBEq, Nat.reduceAdd, Nat.reduceLeDiff, reduceCtorEq]
  refine CallW.u (copyF (R := stateR) (fun h l => stateR.mono h l) (copy_c h18)) ?_
  rintro v4 own' u5 ⟨rfl, cs7, rfl, h7⟩ hle5
  obtain ⟨vk7, vc7, vl7, vv7, rfl, hk7, hc7, hl7, hvd7⟩ := id h7
  try simp only [sx, Nat.reduceBEq, Nat.reduceAdd, Nat.reduceLeDiff, reduceCtorEq]
  intro b7
  refine ⟨⟨hk7.one, hc7.one, hl7.one, hvd7.one⟩, ?_⟩
  refine W_seq (W_reg ?_)
  simp only [r6_6, r6_6a, r6_6b, r6_6c, sx, Nat.reduceBEq, Nat.reduceAdd, Nat.reduceLeDiff, reduceCtorEq]
  refine .inl ⟨by simp [lenAll, vcells], fun blk9 u6 hle6 hua9 => ?_⟩
  try simp only [sx, Nat.reduceBEq, Nat.reduceAdd, Nat.reduceLeDiff, reduceCtorEq]
  have h16 := h18.mono (mpl_mu (mle_trans hle5 hle6))
  have h26 := h28.mono (mpl_mu (mle_trans hle5 hle6))
  have g6 := g8.mono (mle_trans hle5 hle6)
  have hU : stateR (MU u6) [ic 3, vk7, .slice (some ⟨blk9, 0, none⟩) 1 1, vl7, vv7] uS := by
    refine ⟨_, _, _, _, rfl, hk7.mono (mpl_mu hle6), ⟨[_], slc_new hua9 rfl rfl (by simp [maxN]) (by simp [vcells]), hC.mono (mpl_mu (mle_trans hle5 hle6)), trivial⟩, hl7.mono (mpl_mu hle6), hvd7.mono (mpl_mu hle6)⟩
  have hUo := id hU
  obtain ⟨wk, wc, wl, wv, hwe, wk1, wc1, wl1, wv1⟩ := hUo
  refine W_seq (W_reg ?_)
  simp only [r6_7, r6_7a, r6_7b, r6_7c, r6_7d, r6_7e, sx, Nat.reduceBEq, Nat.reduceAdd, Nat.reduceLeDiff, reduceCtorEq]
  refine CallW.u (findF (R := circleR) (fun h l => circleR.mono h l) (circle_look 4 hU)) ?_
  rintro v5 own' u7 ⟨rfl, cs8, rfl, h8⟩ hle7
  rw [find_cS] at h8 ⊢
  simp only [Option.getD_some, Option.isSome_some] at h8 ⊢
  obtain ⟨vm, vp, vb, vt, vo, vu, vq, vx, rfl, ht, hm, hp, hbd, htu, hpo, hou, hq, hcl⟩ := id h8
  try simp only [sx, Nat.reduceBEq, Nat.reduceAdd, Nat.reduceLeDiff, reduceCtorEq]
  intro b8
  refine ⟨⟨hm.one, hp.one, hbd.one, htu.one, hpo.one, hou.one, hq.one, hcl.one⟩, ?_⟩
  refine W_seq (W_reg ?_)
  simp only [r6_8, r6_8a, r6_8b, r6_8c, r6_8d, r6_8e, sx, Nat.reduceBEq, Nat.reduceAdd, Nat.reduceLeDiff, reduceCtorEq]
  refine CallW.u (findF (R := memberR) (fun h l => memberR.mono h l) (member_c 2 h8)) ?_
  rintro v6 own' u8 ⟨rfl, cs10, rfl, h10⟩ hle8
  rw [find_mS] at h10 ⊢
  simp only [Option.getD_some, Option.isSome_some] at h10 ⊢
  obtain ⟨vbk, rfl, hbk⟩ := id h10
  try simp only [sx, Nat.reduceBEq, Nat.reduceAdd, Nat.reduceLeDiff, reduceCtorEq]
  intro b10
  refine ⟨hbk.one, ?_⟩
  refine W_seq (W_reg ?_)
  simp only [r6_9, r6_9a, r6_9b, r6_9c, r6_9d, r6_9e, sx, Nat.reduceBEq, Nat.reduceAdd, Nat.reduceLeDiff, reduceCtorEq]
  refine CallW.u (findF (R := proposalR) (fun h l => proposalR.mono h l) (proposal_look 6 (hU.mono (mpl_mu (mle_trans hle7 hle8))))) ?_
  rintro v7 own' u9 ⟨rfl, cs12, rfl, h12⟩ hle9
  rw [find_pS] at h12 ⊢
  simp only [Option.getD_some, Option.isSome_some] at h12 ⊢
  obtain ⟨vvo, rfl, hvo⟩ := id h12
  try simp only [sx, Nat.reduceBEq, Nat.reduceAdd, Nat.reduceLeDiff, reduceCtorEq]
  intro b12
  refine ⟨hvo.one, ?_⟩
  refine W_seq (W_reg ?_)
  simp only [r6_10, r6_10a, r6_10b, r6_10c, r6_10d, r6_10e, sx, Nat.reduceBEq, Nat.reduceAdd, Nat.reduceLeDiff, reduceCtorEq]
  refine CallW.u (findF (R := claimR) (fun h l => claimR.mono h l) (claim_look 5 (hU.mono (mpl_mu (mle_trans hle7 (mle_trans hle8 hle9)))))) ?_
  rintro v8 own' u10 ⟨rfl, cs14, rfl, h14⟩ hle10
  rw [find_xS] at h14 ⊢
  simp only [Option.getD_some, Option.isSome_some] at h14 ⊢
  obtain ⟨vj, va, rfl, hj, ha⟩ := id h14
  try simp only [sx, Nat.reduceBEq, Nat.reduceAdd, Nat.reduceLeDiff, reduceCtorEq]
  intro b14
  refine ⟨⟨hj.one, ha.one⟩, ?_⟩
  have m10 := mle_trans hle7 (mle_trans hle8 (mle_trans hle9 hle10))
  refine W_seq (W_reg ?_)
  simp only [r6_11, r6_11a, r6_11b, r6_11c, r6_11d, r6_11e, sx, Nat.reduceBEq, Nat.reduceAdd, Nat.reduceLeDiff, reduceCtorEq]
  refine CallW.u (findF (R := circleR) (fun h l => circleR.mono h l) (circle_look 4 (h16.mono (mpl_mu m10)))) ?_
  rintro v9 own' u11 ⟨rfl, cs16, rfl, h16'⟩ hle11
  rw [find_nS] at h16' ⊢
  simp only [Option.getD_none, Option.isSome_none] at h16' ⊢
  obtain ⟨xm, xp, xb, xt, xo, xu, xq, xx, rfl, xht, xhm, xhp, xhb, xhtu, xhpo, xhou, xhq, xhcl⟩ := id h16'
  try simp only [sx, Nat.reduceBEq, Nat.reduceAdd, Nat.reduceLeDiff, reduceCtorEq]
  refine ⟨⟨xhm.one, xhp.one, xhb.one, xhtu.one, xhpo.one, xhou.one, xhq.one, xhcl.one⟩, ?_⟩
  have m11 := mle_trans m10 hle11
  have hU11 := hU.mono (mpl_mu m11)
  refine W_seq (W_reg ?_)
  simp only [r6_12, r6_12a, r6_12b, r6_12c, r6_12d, r6_12e, r6_12f, sx, Nat.reduceBEq, Nat.reduceAdd, Nat.reduceLeDiff, reduceCtorEq]
  refine ⟨_, text_c (g6.mono m11) hU11 (text_of_few u_few), ?_⟩
  try simp only [sx, Nat.reduceBEq, Nat.reduceAdd, Nat.reduceLeDiff, reduceCtorEq]
  refine CallW.u (read_c (g6.mono m11) (by have := textB_len u_few; unfold maxR; omega)) ?_
  rintro v10 own' u12 ⟨cs18, rfl, rfl, h18'⟩ hle12
  rw [read_text u_right (sz_of_few u_few)] at h18' ⊢
  obtain ⟨yk, yc, yl, yv, rfl, yk1, yc1, yl1, yv1⟩ := id h18'
  try simp only [sx, Nat.reduceBEq, Nat.reduceAdd, Nat.reduceLeDiff, reduceCtorEq]
  intro b18
  refine ⟨⟨yk1.one, yc1.one, yl1.one, yv1.one⟩, ?_⟩
  have m12 := mle_trans m11 hle12
  have hU12 := hU.mono (mpl_mu m12)
  have h1z := h16.mono (mpl_mu m12)
  have h2z := h26.mono (mpl_mu m12)
  have gz := g6.mono m12
  clear hU h16 h26 g6 g8 hU11 g1 g2 g3 h18 h28 h1 h2 h3 hC
  refine W_seq (W_reg ?_)
  simp only [r6_13, r6_13a, mksV, sx, Nat.reduceBEq, Nat.reduceAdd, Nat.reduceLeDiff, reduceCtorEq]
  refine ⟨_, text_c gz (zero_state _) (text_of_few zero_few), ?_⟩
  rw [zero_text]
  simp only [r6_13b, r6_13c, sx, Nat.reduceBEq, Nat.reduceAdd, Nat.reduceLeDiff, reduceCtorEq]
  refine ⟨_, text_c gz h1z (text_of_few sample_few), ?_⟩
  rw [sample_text, smallT]
  simp only [r6_13d, r6_13e, sx, Nat.reduceBEq, Nat.reduceAdd, Nat.reduceLeDiff, reduceCtorEq]
  refine ⟨_, same_c h1z h2z, ?_⟩
  simp only [decide_true]
  simp only [r6_13f, r6_13g, sx, Nat.reduceBEq, Nat.reduceAdd, Nat.reduceLeDiff, reduceCtorEq]
  refine ⟨_, balance_q 2 h1z sample_lots, ?_⟩
  rw [bal_2]
  simp only [r6_13h, r6_13i, sx, Nat.reduceBEq, Nat.reduceAdd, Nat.reduceLeDiff, reduceCtorEq]
  refine ⟨_, balance_q 1 h1z sample_lots, ?_⟩
  rw [bal_1]
  simp only [r6_13j, sx, Nat.reduceBEq, Nat.reduceAdd, Nat.reduceLeDiff, reduceCtorEq]
  obtain ⟨av, cv, hev, _⟩ := id hvo
  replace hev : vvo = .slice av 1 cv := hev
  subst hev
  refine W_seq (W_reg ?_)
  simp only [r6_14, r6_14a, one1, sx, Nat.reduceBEq, Nat.reduceAdd, Nat.reduceLeDiff, reduceCtorEq]
  refine ⟨_, same_c h18' hU12, ?_⟩
  simp only [decide_true]
  simp only [r6_14b, r6_14c, sx, Nat.reduceBEq, Nat.reduceAdd, Nat.reduceLeDiff, reduceCtorEq]
  refine ⟨_, same_c h1z hU12, ?_⟩
  rw [sample_ne]
  simp only [r6_14d, r6_14e, sx, Nat.reduceBEq, Nat.reduceAdd, Nat.reduceLeDiff, reduceCtorEq]
  refine ⟨_, right_c hU12, ?_⟩
  rw [u_right]
  simp only [r6_14f, sx, Nat.reduceBEq, Nat.reduceAdd, Nat.reduceLeDiff, reduceCtorEq]
  exact W_ret (RetQ.outG rfl trivial (fun w i => i) ⟨rfl, rfl⟩)
end Go.Proofs.YtenmmfkgopffgaaGreatDoor

set_option maxRecDepth 4000
set_option linter.unnecessarySimpa false
namespace Go.Proofs.YtenmmfkgopffgaaGreatDoor
open Go

def WM (w : World) : Mem := fun b => w.heap[b]?
theorem bulk_pos {H : Type} (d : DataW H) : 1 ≤ Rows.uptoBulk d := by
  cases d with
  | lit l => cases l <;> simp [Rows.uptoBulk]
  | nil => simp [Rows.uptoBulk]
  | ptr d => simp [Rows.uptoBulk]
  | slice elems spare => simp [Rows.uptoBulk]
  | agg parts => simp [Rows.uptoBulk]
  | iface t d => simp [Rows.uptoBulk]
  | map entries => simp [Rows.uptoBulk]
  | held h => simp [Rows.uptoBulk]
theorem bulk_mem {H : Type} {d : DataW H} {l : List (DataW H)} (h : d ∈ l) : Rows.uptoBulk d ≤ Rows.uptoBulkAll l := by
  induction l with
  | nil => cases h
  | cons x r ih =>
    simp only [Rows.uptoBulkAll]
    rcases List.mem_cons.1 h with rfl | h
    · omega
    · have := ih h; omega
theorem bulk_len {H : Type} (l : List (DataW H)) : l.length ≤ Rows.uptoBulkAll l := by
  induction l with
  | nil => simp [Rows.uptoBulkAll]
  | cons x r ih => have := bulk_pos x; simp only [Rows.uptoBulkAll, List.length_cons]; omega
def lim : Nat := 1048576
def Opens {α : Type} (k : Nat) (t : TypeId) (R : MP → List Value → α → Prop) : Prop :=
  ∀ (H : Type) (enc : TypeId × Value → H) (w : World) (base : Nat) (spare : Nat → Bool) (held : Bool) (n : Nat) (cs : List Value) (x : DataW H × List MemPlace), DataW.trod enc Tryz.prog w base spare held n t cs = some x → Rows.uptoBulk x.1 ≤ lim → cs.length = k ∧ ∃ a, R (MU (WM w)) cs a
theorem add_off (a : Addr) (j : Nat) : (a.add j).block = a.block ∧ (a.add j).off = a.off + j ∧ (j = 0 → a.add j = a) := by
  unfold Addr.add; split <;> simp_all
theorem row_of {w : World} {a : Addr} {l : List Value} (hp : 0 < l.length) (h : ∀ q, q < l.length → w.cell? (a.add q) = l[q]?) : ∃ b o, a = ⟨b, o, none⟩ ∧ rowM (MU (WM w)) b o l := by
  have h0 := h 0 hp
  have e0 := (add_off a 0).2.2 rfl
  rw [e0] at h0
  rw [List.getElem?_eq_getElem hp] at h0
  obtain ⟨b, o, s⟩ := a
  unfold World.cell? at h0
  simp only at h0
  split at h0
  · rename_i c T fz hc
    cases s with
    | some x => simp at h0
    | none =>
      refine ⟨b, o, rfl, c, T, fz, hc, ?_⟩
      apply List.ext_getElem?
      intro q
      rw [List.getElem?_take]
      split
      · rename_i hq
        have := h q hq
        rw [← this]
        have e1 : (⟨b, o, none⟩ : Addr).add q = ⟨b, o + q, none⟩ := by unfold Addr.add; split <;> simp_all
        rw [e1]
        unfold World.cell?
        simp only [hc]
        simp
      · rename_i hq
        rw [List.getElem?_eq_none (by omega)]
  · cases h0
theorem op_slice {α : Type} {k : Nat} {t e : TypeId} {R : MP → List Value → α → Prop} (ht : Tryz.prog.underlying t = some (.slice e)) (hk : Tryz.prog.cellsOf e = k) (hk0 : 0 < k) (he : Opens k e R) :
    Opens 1 t fun M cs (xs : List α) => ∃ v, cs = [v] ∧ Sl k R M v xs := by
  intro H enc w base spare held n cs x h hb
  rcases Go.Deep.open_slice ht h with ⟨rfl, rfl⟩ | ⟨a, len, cap, m, n, D, Pl, rfl, hbs, hl, hm, hmm, rfl, hx⟩
  · exact ⟨rfl, [], _, rfl, [], ⟨none, 0, rfl, by simp, by simp, by simp, by simp⟩, trivial⟩
  have hlm : len ≤ m := by rw [hmm]; split <;> omega
  rw [hk] at hx
  simp only [Rows.uptoBulk] at hb
  have hlen := bulk_len ((List.range len).map D)
  simp only [List.length_map, List.length_range] at hlen
  have key : ∀ j, j ≤ len → ∃ (css : List (List Value)) (xs : List α), css.length = j ∧ All2 (R (MU (WM w))) css xs ∧ (∀ cs ∈ css, cs.length = k) ∧ css.flatten.length = j * k ∧ ∀ q, q < j * k → w.cell? (a.add q) = css.flatten[q]? := by
    intro j
    induction j with
    | zero => intro _; exact ⟨[], [], rfl, trivial, by simp, by simp, by simp⟩
    | succ j ih =>
      intro hj
      obtain ⟨css, xs, h1, h2, h3, h4, h5⟩ := ih (by omega)
      obtain ⟨cs', hc, hd⟩ := hx j (by omega)
      have hbj : Rows.uptoBulk (D j) ≤ lim := by
        have := bulk_mem (l := (List.range len).map D) (d := D j) (List.mem_map.2 ⟨j, by simp; omega, rfl⟩)
        unfold lim at hb ⊢
        omega
      obtain ⟨hcl, y, hy⟩ := he _ _ _ _ _ _ _ _ _ hd hbj
      obtain ⟨_, _, hcc⟩ := World.cells?_some hc
      refine ⟨css ++ [cs'], xs ++ [y], by simp [h1], h2.app hy, ?_, ?_, ?_⟩
      · intro c hcm
        rcases List.mem_append.1 hcm with q | q
        · exact h3 c q
        · simp at q; rw [q]; exact hcl
      · simp only [List.flatten_append, List.length_append, h4, List.flatten_cons, List.flatten_nil, List.append_nil, hcl]
        rw [Nat.add_mul]; omega
      · intro q hq
        rw [List.flatten_append]
        by_cases hqj : q < j * k
        · rw [List.getElem?_append_left (by omega)]; exact h5 q hqj
        · rw [List.getElem?_append_right (by omega), h4]
          rw [Nat.add_mul] at hq
          have := hcc (q - j * k) (by omega)
          rw [Go.Deep.add_add, show j * k + (q - j * k) = q by omega] at this
          rw [this]; simp
  obtain ⟨css, xs, h1, h2, h3, h4, h5⟩ := key len (Nat.le_refl _)
  subst h1
  refine ⟨rfl, xs, _, rfl, css, ⟨some a, cap, rfl, ?_, hl, fun hne => ?_, h3⟩, h2⟩
  · unfold lim at hb; unfold maxN; omega
  · have hp : 0 < css.length := List.length_pos_iff.2 hne
    obtain ⟨b, o, rfl, hr⟩ := row_of (w := w) (a := a) (l := css.flatten) (by rw [h4]; exact Nat.mul_pos hp hk0) (by rw [h4]; exact h5)
    exact ⟨b, o, rfl, hr⟩
theorem c3 : Tryz.prog.cellsOf 3 = 1 := by kernel_rfl
theorem c4 : Tryz.prog.cellsOf 4 = 1 := by kernel_rfl
theorem c9 : Tryz.prog.cellsOf 9 = 1 := by kernel_rfl
theorem c31 : Tryz.prog.cellsOf 31 = 1 := by kernel_rfl
theorem op_i64 {t : TypeId} (ht : Tryz.prog.underlying t = some (.int .i64)) : Opens 1 t fun _ cs (n : Int) => cs = [ic n] := by
  intro H enc w base spare held n cs x h hb
  cases n with
  | zero => simp [DataW.trod] at h
  | succ m =>
    unfold DataW.trod at h
    rw [ht] at h
    split at h <;> simp_all
theorem op_bool {t : TypeId} (ht : Tryz.prog.underlying t = some .bool) : Opens 1 t fun _ cs (n : Bool) => cs = [.bool n] := by
  intro H enc w base spare held n cs x h hb
  cases n with
  | zero => simp [DataW.trod] at h
  | succ m =>
    unfold DataW.trod at h
    rw [ht] at h
    split at h <;> simp_all
theorem op_str {t : TypeId} (ht : Tryz.prog.underlying t = some .string) : Opens 1 t fun _ cs (s : ByteArray) => cs = [.string s] ∧ s.size ≤ lim := by
  intro H enc w base spare held n cs x h hb
  cases n with
  | zero => simp [DataW.trod] at h
  | succ m =>
    unfold DataW.trod at h
    rw [ht] at h
    split at h <;> simp_all
    rename_i s
    obtain ⟨_, rfl⟩ := h
    simp only [Rows.uptoBulk] at hb
    have : s.size = s.data.toList.length := by rw [Array.length_toList]; rfl
    omega
end Go.Proofs.YtenmmfkgopffgaaGreatDoor

set_option maxRecDepth 4000
set_option linter.unnecessarySimpa false
namespace Go.Proofs.YtenmmfkgopffgaaGreatDoor
open Go
theorem sl_flat {α : Type} {k : Nat} {f : α → List Value} {M : MP} {v : Value} {xs : List α} (h : Sl k (fun _ cs a => cs = f a) M v xs) : SlF k f M v xs := by
  obtain ⟨css, h1, h2⟩ := h
  have : css = xs.map f := by
    clear h1
    induction css generalizing xs with
    | nil => cases xs with
      | nil => rfl
      | cons => cases h2
    | cons c r ih => cases xs with
      | nil => cases h2
      | cons x r2 =>
        obtain ⟨h3, h4⟩ := h2
        rw [List.map_cons, ← h3, ← ih h4]
  subst this
  exact h1
theorem c22 : Tryz.prog.cellsOf 22 = 1 := by kernel_rfl
theorem c61 : Tryz.prog.cellsOf 61 = 1 := by kernel_rfl
theorem c44 : Tryz.prog.cellsOf 44 = 1 := by kernel_rfl
theorem c45 : Tryz.prog.cellsOf 45 = 1 := by kernel_rfl
theorem c46 : Tryz.prog.cellsOf 46 = 1 := by kernel_rfl
theorem c47 : Tryz.prog.cellsOf 47 = 1 := by kernel_rfl
theorem c48 : Tryz.prog.cellsOf 48 = 1 := by kernel_rfl
theorem c23 : Tryz.prog.cellsOf 23 = 1 := by kernel_rfl
theorem c24 : Tryz.prog.cellsOf 24 = 1 := by kernel_rfl
theorem c25 : Tryz.prog.cellsOf 25 = 1 := by kernel_rfl
theorem c38 : Tryz.prog.cellsOf 38 = 3 := by kernel_rfl
theorem c40 : Tryz.prog.cellsOf 40 = 7 := by kernel_rfl
theorem c42 : Tryz.prog.cellsOf 42 = 2 := by kernel_rfl
theorem c113 : Tryz.prog.cellsOf 113 = 5 := by kernel_rfl
theorem c115 : Tryz.prog.cellsOf 115 = 4 := by kernel_rfl
theorem c60 : Tryz.prog.cellsOf 60 = 4 := by kernel_rfl
theorem c58 : Tryz.prog.cellsOf 58 = 5 := by kernel_rfl
theorem c63 : Tryz.prog.cellsOf 63 = 5 := by kernel_rfl
theorem c65 : Tryz.prog.cellsOf 65 = 12 := by kernel_rfl
theorem c50 : Tryz.prog.cellsOf 50 = 15 := by kernel_rfl
theorem c27 : Tryz.prog.cellsOf 27 = 5 := by kernel_rfl
theorem op_ints : Opens 1 22 fun M cs (xs : List Int) => ∃ v, cs = [v] ∧ Ints M v xs := by
  intro H enc w base spare held n cs x h hb
  obtain ⟨h1, xs, v, rfl, h2⟩ := op_slice (R := fun _ cs (n : Int) => cs = [ic n]) Tryz.underlying22 c3 (by decide) (op_i64 Tryz.underlying3) H enc w base spare held n cs x h hb
  exact ⟨rfl, xs, v, rfl, sl_flat (f := i1) h2⟩
theorem op_span : Opens 3 38 (fun _ cs (s : Int × Int × Int) => cs = [ic s.1, ic s.2.1, ic s.2.2]) := by
  intro H enc w base spare held n cs x h hb
  obtain ⟨xs, m, rfl, rfl, hl, hxl, hf⟩ := DataW.trod_struct Tryz.underlying38 h
  rw [c38] at hl
  replace hxl : xs.length = 3 := hxl
  match cs, hl with
  | [c0_, c1_, c2_], _ =>
  match xs, hxl with
  | [x0, x1, x2], _ =>
  simp only [List.map_cons, List.map_nil, Rows.uptoBulk, Rows.uptoBulkAll] at hb
  have h0 := hf 0 _ rfl
  simp only [List.getElem_toArray, List.getElem_cons_zero, List.getElem_cons_succ] at h0
  rw [c3] at h0
  obtain ⟨_, a0, e0⟩ := op_i64 Tryz.underlying3 H enc w base spare held m _ x0 h0 (by omega)
  simp only [List.drop, List.take, List.cons.injEq, and_true] at e0
  subst e0
  have h1 := hf 1 _ rfl
  simp only [List.getElem_toArray, List.getElem_cons_zero, List.getElem_cons_succ] at h1
  rw [c3] at h1
  obtain ⟨_, a1, e1⟩ := op_i64 Tryz.underlying3 H enc w base spare held m _ x1 h1 (by omega)
  simp only [List.drop, List.take, List.cons.injEq, and_true] at e1
  subst e1
  have h2 := hf 2 _ rfl
  simp only [List.getElem_toArray, List.getElem_cons_zero, List.getElem_cons_succ] at h2
  rw [c3] at h2
  obtain ⟨_, a2, e2⟩ := op_i64 Tryz.underlying3 H enc w base spare held m _ x2 h2 (by omega)
  simp only [List.drop, List.take, List.cons.injEq, and_true] at e2
  subst e2
  exact ⟨rfl, (a0, a1, a2), rfl⟩
theorem op_lot : Opens 7 40 (fun _ cs (s : Lot) => cs = lotC s) := by
  intro H enc w base spare held n cs x h hb
  obtain ⟨xs, m, rfl, rfl, hl, hxl, hf⟩ := DataW.trod_struct Tryz.underlying40 h
  rw [c40] at hl
  replace hxl : xs.length = 5 := hxl
  match cs, hl with
  | [c0_, c1_, c2_, c3_, c4_, c5_, c6_], _ =>
  match xs, hxl with
  | [x0, x1, x2, x3, x4], _ =>
  simp only [List.map_cons, List.map_nil, Rows.uptoBulk, Rows.uptoBulkAll] at hb
  have h0 := hf 0 _ rfl
  simp only [List.getElem_toArray, List.getElem_cons_zero, List.getElem_cons_succ] at h0
  rw [c38] at h0
  obtain ⟨_, a0, e0⟩ := op_span H enc w base spare held m _ x0 h0 (by omega)
  simp only [List.drop, List.take, List.cons.injEq, and_true] at e0
  obtain ⟨rfl, rfl, rfl⟩ := e0
  have h1 := hf 1 _ rfl
  simp only [List.getElem_toArray, List.getElem_cons_zero, List.getElem_cons_succ] at h1
  rw [c3] at h1
  obtain ⟨_, a1, e1⟩ := op_i64 Tryz.underlying3 H enc w base spare held m _ x1 h1 (by omega)
  simp only [List.drop, List.take, List.cons.injEq, and_true] at e1
  subst e1
  have h2 := hf 2 _ rfl
  simp only [List.getElem_toArray, List.getElem_cons_zero, List.getElem_cons_succ] at h2
  rw [c3] at h2
  obtain ⟨_, a2, e2⟩ := op_i64 Tryz.underlying3 H enc w base spare held m _ x2 h2 (by omega)
  simp only [List.drop, List.take, List.cons.injEq, and_true] at e2
  subst e2
  have h3 := hf 3 _ rfl
  simp only [List.getElem_toArray, List.getElem_cons_zero, List.getElem_cons_succ] at h3
  rw [c3] at h3
  obtain ⟨_, a3, e3⟩ := op_i64 Tryz.underlying3 H enc w base spare held m _ x3 h3 (by omega)
  simp only [List.drop, List.take, List.cons.injEq, and_true] at e3
  subst e3
  have h4 := hf 4 _ rfl
  simp only [List.getElem_toArray, List.getElem_cons_zero, List.getElem_cons_succ] at h4
  rw [c3] at h4
  obtain ⟨_, a4, e4⟩ := op_i64 Tryz.underlying3 H enc w base spare held m _ x4 h4 (by omega)
  simp only [List.drop, List.take, List.cons.injEq, and_true] at e4
  subst e4
  exact ⟨rfl, ⟨a0.1, a0.2.1, a0.2.2, a1, a2, a3, a4⟩, rfl⟩
theorem op_lots : Opens 1 24 fun M cs (xs : List Lot) => ∃ v, cs = [v] ∧ SlF 7 lotC M v xs := by
  intro H enc w base spare held n cs x h hb
  obtain ⟨h1, xs, v, rfl, h2⟩ := op_slice (R := fun _ cs (s : Lot) => cs = lotC s) Tryz.underlying24 c40 (by decide) op_lot H enc w base spare held n cs x h hb
  exact ⟨rfl, xs, v, rfl, sl_flat (f := lotC) h2⟩
theorem op_void : Opens 2 42 (fun _ cs (s : Void) => cs = voidC s) := by
  intro H enc w base spare held n cs x h hb
  obtain ⟨xs, m, rfl, rfl, hl, hxl, hf⟩ := DataW.trod_struct Tryz.underlying42 h
  rw [c42] at hl
  replace hxl : xs.length = 2 := hxl
  match cs, hl with
  | [c0_, c1_], _ =>
  match xs, hxl with
  | [x0, x1], _ =>
  simp only [List.map_cons, List.map_nil, Rows.uptoBulk, Rows.uptoBulkAll] at hb
  have h0 := hf 0 _ rfl
  simp only [List.getElem_toArray, List.getElem_cons_zero, List.getElem_cons_succ] at h0
  rw [c3] at h0
  obtain ⟨_, a0, e0⟩ := op_i64 Tryz.underlying3 H enc w base spare held m _ x0 h0 (by omega)
  simp only [List.drop, List.take, List.cons.injEq, and_true] at e0
  subst e0
  have h1 := hf 1 _ rfl
  simp only [List.getElem_toArray, List.getElem_cons_zero, List.getElem_cons_succ] at h1
  rw [c31] at h1
  obtain ⟨_, a1, e1⟩ := op_i64 Tryz.underlying31 H enc w base spare held m _ x1 h1 (by omega)
  simp only [List.drop, List.take, List.cons.injEq, and_true] at e1
  subst e1
  exact ⟨rfl, ⟨a0, a1⟩, rfl⟩
theorem op_voids : Opens 1 25 fun M cs (xs : List Void) => ∃ v, cs = [v] ∧ SlF 2 voidC M v xs := by
  intro H enc w base spare held n cs x h hb
  obtain ⟨h1, xs, v, rfl, h2⟩ := op_slice (R := fun _ cs (s : Void) => cs = voidC s) Tryz.underlying25 c42 (by decide) op_void H enc w base spare held n cs x h hb
  exact ⟨rfl, xs, v, rfl, sl_flat (f := voidC) h2⟩
theorem op_paid : Opens 5 113 (fun _ cs (s : Paid) => cs = paidC s) := by
  intro H enc w base spare held n cs x h hb
  obtain ⟨xs, m, rfl, rfl, hl, hxl, hf⟩ := DataW.trod_struct Tryz.underlying113 h
  rw [c113] at hl
  replace hxl : xs.length = 5 := hxl
  match cs, hl with
  | [c0_, c1_, c2_, c3_, c4_], _ =>
  match xs, hxl with
  | [x0, x1, x2, x3, x4], _ =>
  simp only [List.map_cons, List.map_nil, Rows.uptoBulk, Rows.uptoBulkAll] at hb
  have h0 := hf 0 _ rfl
  simp only [List.getElem_toArray, List.getElem_cons_zero, List.getElem_cons_succ] at h0
  rw [c3] at h0
  obtain ⟨_, a0, e0⟩ := op_i64 Tryz.underlying3 H enc w base spare held m _ x0 h0 (by omega)
  simp only [List.drop, List.take, List.cons.injEq, and_true] at e0
  subst e0
  have h1 := hf 1 _ rfl
  simp only [List.getElem_toArray, List.getElem_cons_zero, List.getElem_cons_succ] at h1
  rw [c3] at h1
  obtain ⟨_, a1, e1⟩ := op_i64 Tryz.underlying3 H enc w base spare held m _ x1 h1 (by omega)
  simp only [List.drop, List.take, List.cons.injEq, and_true] at e1
  subst e1
  have h2 := hf 2 _ rfl
  simp only [List.getElem_toArray, List.getElem_cons_zero, List.getElem_cons_succ] at h2
  rw [c3] at h2
  obtain ⟨_, a2, e2⟩ := op_i64 Tryz.underlying3 H enc w base spare held m _ x2 h2 (by omega)
  simp only [List.drop, List.take, List.cons.injEq, and_true] at e2
  subst e2
  have h3 := hf 3 _ rfl
  simp only [List.getElem_toArray, List.getElem_cons_zero, List.getElem_cons_succ] at h3
  rw [c3] at h3
  obtain ⟨_, a3, e3⟩ := op_i64 Tryz.underlying3 H enc w base spare held m _ x3 h3 (by omega)
  simp only [List.drop, List.take, List.cons.injEq, and_true] at e3
  subst e3
  have h4 := hf 4 _ rfl
  simp only [List.getElem_toArray, List.getElem_cons_zero, List.getElem_cons_succ] at h4
  rw [c3] at h4
  obtain ⟨_, a4, e4⟩ := op_i64 Tryz.underlying3 H enc w base spare held m _ x4 h4 (by omega)
  simp only [List.drop, List.take, List.cons.injEq, and_true] at e4
  subst e4
  exact ⟨rfl, ⟨a0, a1, a2, a3, a4⟩, rfl⟩
theorem op_paids : Opens 1 45 fun M cs (xs : List Paid) => ∃ v, cs = [v] ∧ SlF 5 paidC M v xs := by
  intro H enc w base spare held n cs x h hb
  obtain ⟨h1, xs, v, rfl, h2⟩ := op_slice (R := fun _ cs (s : Paid) => cs = paidC s) Tryz.underlying45 c113 (by decide) op_paid H enc w base spare held n cs x h hb
  exact ⟨rfl, xs, v, rfl, sl_flat (f := paidC) h2⟩
theorem op_bid : Opens 4 115 (fun _ cs (s : Bid) => cs = bidC s) := by
  intro H enc w base spare held n cs x h hb
  obtain ⟨xs, m, rfl, rfl, hl, hxl, hf⟩ := DataW.trod_struct Tryz.underlying115 h
  rw [c115] at hl
  replace hxl : xs.length = 4 := hxl
  match cs, hl with
  | [c0_, c1_, c2_, c3_], _ =>
  match xs, hxl with
  | [x0, x1, x2, x3], _ =>
  simp only [List.map_cons, List.map_nil, Rows.uptoBulk, Rows.uptoBulkAll] at hb
  have h0 := hf 0 _ rfl
  simp only [List.getElem_toArray, List.getElem_cons_zero, List.getElem_cons_succ] at h0
  rw [c3] at h0
  obtain ⟨_, a0, e0⟩ := op_i64 Tryz.underlying3 H enc w base spare held m _ x0 h0 (by omega)
  simp only [List.drop, List.take, List.cons.injEq, and_true] at e0
  subst e0
  have h1 := hf 1 _ rfl
  simp only [List.getElem_toArray, List.getElem_cons_zero, List.getElem_cons_succ] at h1
  rw [c3] at h1
  obtain ⟨_, a1, e1⟩ := op_i64 Tryz.underlying3 H enc w base spare held m _ x1 h1 (by omega)
  simp only [List.drop, List.take, List.cons.injEq, and_true] at e1
  subst e1
  have h2 := hf 2 _ rfl
  simp only [List.getElem_toArray, List.getElem_cons_zero, List.getElem_cons_succ] at h2
  rw [c3] at h2
  obtain ⟨_, a2, e2⟩ := op_i64 Tryz.underlying3 H enc w base spare held m _ x2 h2 (by omega)
  simp only [List.drop, List.take, List.cons.injEq, and_true] at e2
  subst e2
  have h3 := hf 3 _ rfl
  simp only [List.getElem_toArray, List.getElem_cons_zero, List.getElem_cons_succ] at h3
  rw [c4] at h3
  obtain ⟨_, a3, e3⟩ := op_bool Tryz.underlying4 H enc w base spare held m _ x3 h3 (by omega)
  simp only [List.drop, List.take, List.cons.injEq, and_true] at e3
  subst e3
  exact ⟨rfl, ⟨a0, a1, a2, a3⟩, rfl⟩
theorem op_bids : Opens 1 46 fun M cs (xs : List Bid) => ∃ v, cs = [v] ∧ SlF 4 bidC M v xs := by
  intro H enc w base spare held n cs x h hb
  obtain ⟨h1, xs, v, rfl, h2⟩ := op_slice (R := fun _ cs (s : Bid) => cs = bidC s) Tryz.underlying46 c115 (by decide) op_bid H enc w base spare held n cs x h hb
  exact ⟨rfl, xs, v, rfl, sl_flat (f := bidC) h2⟩
theorem op_voice : Opens 4 60 (fun _ cs (s : Voice) => cs = voiceC s) := by
  intro H enc w base spare held n cs x h hb
  obtain ⟨xs, m, rfl, rfl, hl, hxl, hf⟩ := DataW.trod_struct Tryz.underlying60 h
  rw [c60] at hl
  replace hxl : xs.length = 4 := hxl
  match cs, hl with
  | [c0_, c1_, c2_, c3_], _ =>
  match xs, hxl with
  | [x0, x1, x2, x3], _ =>
  simp only [List.map_cons, List.map_nil, Rows.uptoBulk, Rows.uptoBulkAll] at hb
  have h0 := hf 0 _ rfl
  simp only [List.getElem_toArray, List.getElem_cons_zero, List.getElem_cons_succ] at h0
  rw [c3] at h0
  obtain ⟨_, a0, e0⟩ := op_i64 Tryz.underlying3 H enc w base spare held m _ x0 h0 (by omega)
  simp only [List.drop, List.take, List.cons.injEq, and_true] at e0
  subst e0
  have h1 := hf 1 _ rfl
  simp only [List.getElem_toArray, List.getElem_cons_zero, List.getElem_cons_succ] at h1
  rw [c3] at h1
  obtain ⟨_, a1, e1⟩ := op_i64 Tryz.underlying3 H enc w base spare held m _ x1 h1 (by omega)
  simp only [List.drop, List.take, List.cons.injEq, and_true] at e1
  subst e1
  have h2 := hf 2 _ rfl
  simp only [List.getElem_toArray, List.getElem_cons_zero, List.getElem_cons_succ] at h2
  rw [c4] at h2
  obtain ⟨_, a2, e2⟩ := op_bool Tryz.underlying4 H enc w base spare held m _ x2 h2 (by omega)
  simp only [List.drop, List.take, List.cons.injEq, and_true] at e2
  subst e2
  have h3 := hf 3 _ rfl
  simp only [List.getElem_toArray, List.getElem_cons_zero, List.getElem_cons_succ] at h3
  rw [c3] at h3
  obtain ⟨_, a3, e3⟩ := op_i64 Tryz.underlying3 H enc w base spare held m _ x3 h3 (by omega)
  simp only [List.drop, List.take, List.cons.injEq, and_true] at e3
  subst e3
  exact ⟨rfl, ⟨a0, a1, a2, a3⟩, rfl⟩
theorem op_voices : Opens 1 61 fun M cs (xs : List Voice) => ∃ v, cs = [v] ∧ SlF 4 voiceC M v xs := by
  intro H enc w base spare held n cs x h hb
  obtain ⟨h1, xs, v, rfl, h2⟩ := op_slice (R := fun _ cs (s : Voice) => cs = voiceC s) Tryz.underlying61 c60 (by decide) op_voice H enc w base spare held n cs x h hb
  exact ⟨rfl, xs, v, rfl, sl_flat (f := voiceC) h2⟩
theorem op_member : Opens 5 58 (memberR) := by
  intro H enc w base spare held n cs x h hb
  obtain ⟨xs, m, rfl, rfl, hl, hxl, hf⟩ := DataW.trod_struct Tryz.underlying58 h
  rw [c58] at hl
  replace hxl : xs.length = 5 := hxl
  match cs, hl with
  | [c0_, c1_, c2_, c3_, c4_], _ =>
  match xs, hxl with
  | [x0, x1, x2, x3, x4], _ =>
  simp only [List.map_cons, List.map_nil, Rows.uptoBulk, Rows.uptoBulkAll] at hb
  have h0 := hf 0 _ rfl
  simp only [List.getElem_toArray, List.getElem_cons_zero, List.getElem_cons_succ] at h0
  rw [c3] at h0
  obtain ⟨_, a0, e0⟩ := op_i64 Tryz.underlying3 H enc w base spare held m _ x0 h0 (by omega)
  simp only [List.drop, List.take, List.cons.injEq, and_true] at e0
  subst e0
  have h1 := hf 1 _ rfl
  simp only [List.getElem_toArray, List.getElem_cons_zero, List.getElem_cons_succ] at h1
  rw [c3] at h1
  obtain ⟨_, a1, e1⟩ := op_i64 Tryz.underlying3 H enc w base spare held m _ x1 h1 (by omega)
  simp only [List.drop, List.take, List.cons.injEq, and_true] at e1
  subst e1
  have h2 := hf 2 _ rfl
  simp only [List.getElem_toArray, List.getElem_cons_zero, List.getElem_cons_succ] at h2
  rw [c22] at h2
  obtain ⟨_, a2, e2⟩ := op_ints H enc w base spare held m _ x2 h2 (by omega)
  obtain ⟨v2, e2, r2⟩ := e2
  simp only [List.drop, List.take, List.cons.injEq, and_true] at e2
  subst e2
  have h3 := hf 3 _ rfl
  simp only [List.getElem_toArray, List.getElem_cons_zero, List.getElem_cons_succ] at h3
  rw [c3] at h3
  obtain ⟨_, a3, e3⟩ := op_i64 Tryz.underlying3 H enc w base spare held m _ x3 h3 (by omega)
  simp only [List.drop, List.take, List.cons.injEq, and_true] at e3
  subst e3
  have h4 := hf 4 _ rfl
  simp only [List.getElem_toArray, List.getElem_cons_zero, List.getElem_cons_succ] at h4
  rw [c3] at h4
  obtain ⟨_, a4, e4⟩ := op_i64 Tryz.underlying3 H enc w base spare held m _ x4 h4 (by omega)
  simp only [List.drop, List.take, List.cons.injEq, and_true] at e4
  subst e4
  exact ⟨rfl, ⟨a0, a1, a2, a3, a4⟩, ⟨_, rfl, r2⟩⟩
theorem op_members : Opens 1 44 fun M cs (xs : List Member) => ∃ v, cs = [v] ∧ Sl 5 memberR M v xs :=
  op_slice Tryz.underlying44 c58 (by decide) op_member
theorem op_proposal : Opens 5 63 (proposalR) := by
  intro H enc w base spare held n cs x h hb
  obtain ⟨xs, m, rfl, rfl, hl, hxl, hf⟩ := DataW.trod_struct Tryz.underlying63 h
  rw [c63] at hl
  replace hxl : xs.length = 5 := hxl
  match cs, hl with
  | [c0_, c1_, c2_, c3_, c4_], _ =>
  match xs, hxl with
  | [x0, x1, x2, x3, x4], _ =>
  simp only [List.map_cons, List.map_nil, Rows.uptoBulk, Rows.uptoBulkAll] at hb
  have h0 := hf 0 _ rfl
  simp only [List.getElem_toArray, List.getElem_cons_zero, List.getElem_cons_succ] at h0
  rw [c3] at h0
  obtain ⟨_, a0, e0⟩ := op_i64 Tryz.underlying3 H enc w base spare held m _ x0 h0 (by omega)
  simp only [List.drop, List.take, List.cons.injEq, and_true] at e0
  subst e0
  have h1 := hf 1 _ rfl
  simp only [List.getElem_toArray, List.getElem_cons_zero, List.getElem_cons_succ] at h1
  rw [c3] at h1
  obtain ⟨_, a1, e1⟩ := op_i64 Tryz.underlying3 H enc w base spare held m _ x1 h1 (by omega)
  simp only [List.drop, List.take, List.cons.injEq, and_true] at e1
  subst e1
  have h2 := hf 2 _ rfl
  simp only [List.getElem_toArray, List.getElem_cons_zero, List.getElem_cons_succ] at h2
  rw [c3] at h2
  obtain ⟨_, a2, e2⟩ := op_i64 Tryz.underlying3 H enc w base spare held m _ x2 h2 (by omega)
  simp only [List.drop, List.take, List.cons.injEq, and_true] at e2
  subst e2
  have h3 := hf 3 _ rfl
  simp only [List.getElem_toArray, List.getElem_cons_zero, List.getElem_cons_succ] at h3
  rw [c61] at h3
  obtain ⟨_, a3, e3⟩ := op_voices H enc w base spare held m _ x3 h3 (by omega)
  obtain ⟨v3, e3, r3⟩ := e3
  simp only [List.drop, List.take, List.cons.injEq, and_true] at e3
  subst e3
  have h4 := hf 4 _ rfl
  simp only [List.getElem_toArray, List.getElem_cons_zero, List.getElem_cons_succ] at h4
  rw [c3] at h4
  obtain ⟨_, a4, e4⟩ := op_i64 Tryz.underlying3 H enc w base spare held m _ x4 h4 (by omega)
  simp only [List.drop, List.take, List.cons.injEq, and_true] at e4
  subst e4
  exact ⟨rfl, ⟨a0, a1, a2, a3, a4⟩, ⟨_, rfl, r3⟩⟩
theorem op_proposals : Opens 1 47 fun M cs (xs : List Proposal) => ∃ v, cs = [v] ∧ Sl 5 proposalR M v xs :=
  op_slice Tryz.underlying47 c63 (by decide) op_proposal
theorem op_claim : Opens 12 65 (claimR) := by
  intro H enc w base spare held n cs x h hb
  obtain ⟨xs, m, rfl, rfl, hl, hxl, hf⟩ := DataW.trod_struct Tryz.underlying65 h
  rw [c65] at hl
  replace hxl : xs.length = 12 := hxl
  match cs, hl with
  | [c0_, c1_, c2_, c3_, c4_, c5_, c6_, c7_, c8_, c9_, c10_, c11_], _ =>
  match xs, hxl with
  | [x0, x1, x2, x3, x4, x5, x6, x7, x8, x9, x10, x11], _ =>
  simp only [List.map_cons, List.map_nil, Rows.uptoBulk, Rows.uptoBulkAll] at hb
  have h0 := hf 0 _ rfl
  simp only [List.getElem_toArray, List.getElem_cons_zero, List.getElem_cons_succ] at h0
  rw [c3] at h0
  obtain ⟨_, a0, e0⟩ := op_i64 Tryz.underlying3 H enc w base spare held m _ x0 h0 (by omega)
  simp only [List.drop, List.take, List.cons.injEq, and_true] at e0
  subst e0
  have h1 := hf 1 _ rfl
  simp only [List.getElem_toArray, List.getElem_cons_zero, List.getElem_cons_succ] at h1
  rw [c3] at h1
  obtain ⟨_, a1, e1⟩ := op_i64 Tryz.underlying3 H enc w base spare held m _ x1 h1 (by omega)
  simp only [List.drop, List.take, List.cons.injEq, and_true] at e1
  subst e1
  have h2 := hf 2 _ rfl
  simp only [List.getElem_toArray, List.getElem_cons_zero, List.getElem_cons_succ] at h2
  rw [c3] at h2
  obtain ⟨_, a2, e2⟩ := op_i64 Tryz.underlying3 H enc w base spare held m _ x2 h2 (by omega)
  simp only [List.drop, List.take, List.cons.injEq, and_true] at e2
  subst e2
  have h3 := hf 3 _ rfl
  simp only [List.getElem_toArray, List.getElem_cons_zero, List.getElem_cons_succ] at h3
  rw [c3] at h3
  obtain ⟨_, a3, e3⟩ := op_i64 Tryz.underlying3 H enc w base spare held m _ x3 h3 (by omega)
  simp only [List.drop, List.take, List.cons.injEq, and_true] at e3
  subst e3
  have h4 := hf 4 _ rfl
  simp only [List.getElem_toArray, List.getElem_cons_zero, List.getElem_cons_succ] at h4
  rw [c3] at h4
  obtain ⟨_, a4, e4⟩ := op_i64 Tryz.underlying3 H enc w base spare held m _ x4 h4 (by omega)
  simp only [List.drop, List.take, List.cons.injEq, and_true] at e4
  subst e4
  have h5 := hf 5 _ rfl
  simp only [List.getElem_toArray, List.getElem_cons_zero, List.getElem_cons_succ] at h5
  rw [c3] at h5
  obtain ⟨_, a5, e5⟩ := op_i64 Tryz.underlying3 H enc w base spare held m _ x5 h5 (by omega)
  simp only [List.drop, List.take, List.cons.injEq, and_true] at e5
  subst e5
  have h6 := hf 6 _ rfl
  simp only [List.getElem_toArray, List.getElem_cons_zero, List.getElem_cons_succ] at h6
  rw [c3] at h6
  obtain ⟨_, a6, e6⟩ := op_i64 Tryz.underlying3 H enc w base spare held m _ x6 h6 (by omega)
  simp only [List.drop, List.take, List.cons.injEq, and_true] at e6
  subst e6
  have h7 := hf 7 _ rfl
  simp only [List.getElem_toArray, List.getElem_cons_zero, List.getElem_cons_succ] at h7
  rw [c22] at h7
  obtain ⟨_, a7, e7⟩ := op_ints H enc w base spare held m _ x7 h7 (by omega)
  obtain ⟨v7, e7, r7⟩ := e7
  simp only [List.drop, List.take, List.cons.injEq, and_true] at e7
  subst e7
  have h8 := hf 8 _ rfl
  simp only [List.getElem_toArray, List.getElem_cons_zero, List.getElem_cons_succ] at h8
  rw [c22] at h8
  obtain ⟨_, a8, e8⟩ := op_ints H enc w base spare held m _ x8 h8 (by omega)
  obtain ⟨v8, e8, r8⟩ := e8
  simp only [List.drop, List.take, List.cons.injEq, and_true] at e8
  subst e8
  have h9 := hf 9 _ rfl
  simp only [List.getElem_toArray, List.getElem_cons_zero, List.getElem_cons_succ] at h9
  rw [c3] at h9
  obtain ⟨_, a9, e9⟩ := op_i64 Tryz.underlying3 H enc w base spare held m _ x9 h9 (by omega)
  simp only [List.drop, List.take, List.cons.injEq, and_true] at e9
  subst e9
  have h10 := hf 10 _ rfl
  simp only [List.getElem_toArray, List.getElem_cons_zero, List.getElem_cons_succ] at h10
  rw [c3] at h10
  obtain ⟨_, a10, e10⟩ := op_i64 Tryz.underlying3 H enc w base spare held m _ x10 h10 (by omega)
  simp only [List.drop, List.take, List.cons.injEq, and_true] at e10
  subst e10
  have h11 := hf 11 _ rfl
  simp only [List.getElem_toArray, List.getElem_cons_zero, List.getElem_cons_succ] at h11
  rw [c3] at h11
  obtain ⟨_, a11, e11⟩ := op_i64 Tryz.underlying3 H enc w base spare held m _ x11 h11 (by omega)
  simp only [List.drop, List.take, List.cons.injEq, and_true] at e11
  subst e11
  exact ⟨rfl, ⟨a0, a1, a2, a3, a4, a5, a6, a7, a8, a9, a10, a11⟩, ⟨_, _, rfl, r7, r8⟩⟩
theorem op_claims : Opens 1 48 fun M cs (xs : List Claim) => ∃ v, cs = [v] ∧ Sl 12 claimR M v xs :=
  op_slice Tryz.underlying48 c65 (by decide) op_claim
theorem op_circle : Opens 15 50 (circleR) := by
  intro H enc w base spare held n cs x h hb
  obtain ⟨xs, m, rfl, rfl, hl, hxl, hf⟩ := DataW.trod_struct Tryz.underlying50 h
  rw [c50] at hl
  replace hxl : xs.length = 15 := hxl
  match cs, hl with
  | [c0_, c1_, c2_, c3_, c4_, c5_, c6_, c7_, c8_, c9_, c10_, c11_, c12_, c13_, c14_], _ =>
  match xs, hxl with
  | [x0, x1, x2, x3, x4, x5, x6, x7, x8, x9, x10, x11, x12, x13, x14], _ =>
  simp only [List.map_cons, List.map_nil, Rows.uptoBulk, Rows.uptoBulkAll] at hb
  have h0 := hf 0 _ rfl
  simp only [List.getElem_toArray, List.getElem_cons_zero, List.getElem_cons_succ] at h0
  rw [c3] at h0
  obtain ⟨_, a0, e0⟩ := op_i64 Tryz.underlying3 H enc w base spare held m _ x0 h0 (by omega)
  simp only [List.drop, List.take, List.cons.injEq, and_true] at e0
  subst e0
  have h1 := hf 1 _ rfl
  simp only [List.getElem_toArray, List.getElem_cons_zero, List.getElem_cons_succ] at h1
  rw [c3] at h1
  obtain ⟨_, a1, e1⟩ := op_i64 Tryz.underlying3 H enc w base spare held m _ x1 h1 (by omega)
  simp only [List.drop, List.take, List.cons.injEq, and_true] at e1
  subst e1
  have h2 := hf 2 _ rfl
  simp only [List.getElem_toArray, List.getElem_cons_zero, List.getElem_cons_succ] at h2
  rw [c9] at h2
  obtain ⟨_, a2, e2⟩ := op_str Tryz.underlying9 H enc w base spare held m _ x2 h2 (by omega)
  obtain ⟨e2, r2⟩ := e2
  simp only [List.drop, List.take, List.cons.injEq, and_true] at e2
  subst e2
  have h3 := hf 3 _ rfl
  simp only [List.getElem_toArray, List.getElem_cons_zero, List.getElem_cons_succ] at h3
  rw [c3] at h3
  obtain ⟨_, a3, e3⟩ := op_i64 Tryz.underlying3 H enc w base spare held m _ x3 h3 (by omega)
  simp only [List.drop, List.take, List.cons.injEq, and_true] at e3
  subst e3
  have h4 := hf 4 _ rfl
  simp only [List.getElem_toArray, List.getElem_cons_zero, List.getElem_cons_succ] at h4
  rw [c3] at h4
  obtain ⟨_, a4, e4⟩ := op_i64 Tryz.underlying3 H enc w base spare held m _ x4 h4 (by omega)
  simp only [List.drop, List.take, List.cons.injEq, and_true] at e4
  subst e4
  have h5 := hf 5 _ rfl
  simp only [List.getElem_toArray, List.getElem_cons_zero, List.getElem_cons_succ] at h5
  rw [c44] at h5
  obtain ⟨_, a5, e5⟩ := op_members H enc w base spare held m _ x5 h5 (by omega)
  obtain ⟨v5, e5, r5⟩ := e5
  simp only [List.drop, List.take, List.cons.injEq, and_true] at e5
  subst e5
  have h6 := hf 6 _ rfl
  simp only [List.getElem_toArray, List.getElem_cons_zero, List.getElem_cons_succ] at h6
  rw [c45] at h6
  obtain ⟨_, a6, e6⟩ := op_paids H enc w base spare held m _ x6 h6 (by omega)
  obtain ⟨v6, e6, r6⟩ := e6
  simp only [List.drop, List.take, List.cons.injEq, and_true] at e6
  subst e6
  have h7 := hf 7 _ rfl
  simp only [List.getElem_toArray, List.getElem_cons_zero, List.getElem_cons_succ] at h7
  rw [c46] at h7
  obtain ⟨_, a7, e7⟩ := op_bids H enc w base spare held m _ x7 h7 (by omega)
  obtain ⟨v7, e7, r7⟩ := e7
  simp only [List.drop, List.take, List.cons.injEq, and_true] at e7
  subst e7
  have h8 := hf 8 _ rfl
  simp only [List.getElem_toArray, List.getElem_cons_zero, List.getElem_cons_succ] at h8
  rw [c22] at h8
  obtain ⟨_, a8, e8⟩ := op_ints H enc w base spare held m _ x8 h8 (by omega)
  obtain ⟨v8, e8, r8⟩ := e8
  simp only [List.drop, List.take, List.cons.injEq, and_true] at e8
  subst e8
  have h9 := hf 9 _ rfl
  simp only [List.getElem_toArray, List.getElem_cons_zero, List.getElem_cons_succ] at h9
  rw [c22] at h9
  obtain ⟨_, a9, e9⟩ := op_ints H enc w base spare held m _ x9 h9 (by omega)
  obtain ⟨v9, e9, r9⟩ := e9
  simp only [List.drop, List.take, List.cons.injEq, and_true] at e9
  subst e9
  have h10 := hf 10 _ rfl
  simp only [List.getElem_toArray, List.getElem_cons_zero, List.getElem_cons_succ] at h10
  rw [c22] at h10
  obtain ⟨_, a10, e10⟩ := op_ints H enc w base spare held m _ x10 h10 (by omega)
  obtain ⟨v10, e10, r10⟩ := e10
  simp only [List.drop, List.take, List.cons.injEq, and_true] at e10
  subst e10
  have h11 := hf 11 _ rfl
  simp only [List.getElem_toArray, List.getElem_cons_zero, List.getElem_cons_succ] at h11
  rw [c47] at h11
  obtain ⟨_, a11, e11⟩ := op_proposals H enc w base spare held m _ x11 h11 (by omega)
  obtain ⟨v11, e11, r11⟩ := e11
  simp only [List.drop, List.take, List.cons.injEq, and_true] at e11
  subst e11
  have h12 := hf 12 _ rfl
  simp only [List.getElem_toArray, List.getElem_cons_zero, List.getElem_cons_succ] at h12
  rw [c48] at h12
  obtain ⟨_, a12, e12⟩ := op_claims H enc w base spare held m _ x12 h12 (by omega)
  obtain ⟨v12, e12, r12⟩ := e12
  simp only [List.drop, List.take, List.cons.injEq, and_true] at e12
  subst e12
  have h13 := hf 13 _ rfl
  simp only [List.getElem_toArray, List.getElem_cons_zero, List.getElem_cons_succ] at h13
  rw [c3] at h13
  obtain ⟨_, a13, e13⟩ := op_i64 Tryz.underlying3 H enc w base spare held m _ x13 h13 (by omega)
  simp only [List.drop, List.take, List.cons.injEq, and_true] at e13
  subst e13
  have h14 := hf 14 _ rfl
  simp only [List.getElem_toArray, List.getElem_cons_zero, List.getElem_cons_succ] at h14
  rw [c4] at h14
  obtain ⟨_, a14, e14⟩ := op_bool Tryz.underlying4 H enc w base spare held m _ x14 h14 (by omega)
  simp only [List.drop, List.take, List.cons.injEq, and_true] at e14
  subst e14
  exact ⟨rfl, ⟨a0, a1, a2, a3, a4, a5, a6, a7, a8, a9, a10, a11, a12, a13, a14⟩, ⟨_, _, _, _, _, _, _, _, rfl, Nat.le_trans r2 (by decide), r5, r6, r7, r8, r9, r10, r11, r12⟩⟩
theorem op_circles : Opens 1 23 fun M cs (xs : List Circle) => ∃ v, cs = [v] ∧ Sl 15 circleR M v xs :=
  op_slice Tryz.underlying23 c50 (by decide) op_circle
theorem op_state : Opens 5 27 (stateR) := by
  intro H enc w base spare held n cs x h hb
  obtain ⟨xs, m, rfl, rfl, hl, hxl, hf⟩ := DataW.trod_struct Tryz.underlying27 h
  rw [c27] at hl
  replace hxl : xs.length = 5 := hxl
  match cs, hl with
  | [c0_, c1_, c2_, c3_, c4_], _ =>
  match xs, hxl with
  | [x0, x1, x2, x3, x4], _ =>
  simp only [List.map_cons, List.map_nil, Rows.uptoBulk, Rows.uptoBulkAll] at hb
  have h0 := hf 0 _ rfl
  simp only [List.getElem_toArray, List.getElem_cons_zero, List.getElem_cons_succ] at h0
  rw [c3] at h0
  obtain ⟨_, a0, e0⟩ := op_i64 Tryz.underlying3 H enc w base spare held m _ x0 h0 (by omega)
  simp only [List.drop, List.take, List.cons.injEq, and_true] at e0
  subst e0
  have h1 := hf 1 _ rfl
  simp only [List.getElem_toArray, List.getElem_cons_zero, List.getElem_cons_succ] at h1
  rw [c22] at h1
  obtain ⟨_, a1, e1⟩ := op_ints H enc w base spare held m _ x1 h1 (by omega)
  obtain ⟨v1, e1, r1⟩ := e1
  simp only [List.drop, List.take, List.cons.injEq, and_true] at e1
  subst e1
  have h2 := hf 2 _ rfl
  simp only [List.getElem_toArray, List.getElem_cons_zero, List.getElem_cons_succ] at h2
  rw [c23] at h2
  obtain ⟨_, a2, e2⟩ := op_circles H enc w base spare held m _ x2 h2 (by omega)
  obtain ⟨v2, e2, r2⟩ := e2
  simp only [List.drop, List.take, List.cons.injEq, and_true] at e2
  subst e2
  have h3 := hf 3 _ rfl
  simp only [List.getElem_toArray, List.getElem_cons_zero, List.getElem_cons_succ] at h3
  rw [c24] at h3
  obtain ⟨_, a3, e3⟩ := op_lots H enc w base spare held m _ x3 h3 (by omega)
  obtain ⟨v3, e3, r3⟩ := e3
  simp only [List.drop, List.take, List.cons.injEq, and_true] at e3
  subst e3
  have h4 := hf 4 _ rfl
  simp only [List.getElem_toArray, List.getElem_cons_zero, List.getElem_cons_succ] at h4
  rw [c25] at h4
  obtain ⟨_, a4, e4⟩ := op_voids H enc w base spare held m _ x4 h4 (by omega)
  obtain ⟨v4, e4, r4⟩ := e4
  simp only [List.drop, List.take, List.cons.injEq, and_true] at e4
  subst e4
  exact ⟨rfl, ⟨a0, a1, a2, a3, a4⟩, ⟨_, _, _, _, rfl, r1, r2, r3, r4⟩⟩
end Go.Proofs.YtenmmfkgopffgaaGreatDoor
