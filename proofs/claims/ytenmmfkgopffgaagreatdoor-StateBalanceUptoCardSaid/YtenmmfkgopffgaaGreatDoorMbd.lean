/- Part 30 of the proofs that the program's StateBack and StateBalance return true (texts Wo Tb Wu Wv Tc joined): what its functions compute. -/
import Derived.Test.YtenmmfkgopffgaaGreatDoorMbc
import Derived.Test.YtenmmfkgopffgaaGreatDoorMbb
import Derived.Test.YtenmmfkgopffgaaGreatDoorMap
import Derived.Test.YtenmmfkgopffgaaGreatDoorMaz
set_option linter.unusedVariables false
set_option linter.unusedSimpArgs false
set_option maxRecDepth 4000
namespace Go.Proofs.YtenmmfkgopffgaaGreatDoor
open Go

theorem refSame_c {cs cs' : List Value} {x y : State} {u : Mem} (hx : stateR (MU u) cs x) (hy : stateR (MU u) cs' y) : QFn Tryz.prog 11 [.agg cs.toArray, .agg cs'.toArray] u (.bool (decide (x = y))) := by
  obtain ⟨vk, vc, vl, vv, rfl, hk, ⟨cssc, ⟨ac, cc, rfl, hmaxc, hcapc, hrowc, hlenc⟩, hallc⟩, ⟨al, cl, rfl, hmaxl, hcapl, hrowl, hlenl⟩, ⟨av, cv, rfl, hmaxv, hcapv, hrowv, hlenv⟩⟩ := hx
  obtain ⟨vk2, vc2, vl2, vv2, rfl, hk2, ⟨cssc2, ⟨ac2, cc2, rfl, hmaxc2, hcapc2, hrowc2, hlenc2⟩, hallc2⟩, ⟨al2, cl2, rfl, hmaxl2, hcapl2, hrowl2, hlenl2⟩, ⟨av2, cv2, rfl, hmaxv2, hcapv2, hrowv2, hlenv2⟩⟩ := hy
  have hlc := hallc.len; have hlc2 := hallc2.len
  simp only [List.length_map] at hmaxl hcapl hmaxl2 hcapl2 hmaxv hcapv hmaxv2 hcapv2
  refine fn11 fun cx hu => ?_
  refine W_seq (W_reg ?_)
  simp only [r11_0, r11_0a, r11_0b, sx, Nat.reduceBEq, Nat.reduceAdd, Nat.reduceLeDiff, reduceCtorEq]
  intro b1 b2
  refine W_seq ?_
  refine W_seq (W_reg ?_)
  simp only [r11_1, r11_1a, sx, Nat.reduceBEq, Nat.reduceAdd, Nat.reduceLeDiff, reduceCtorEq]
  refine ⟨_, fun _ => refInts hk hk2, ?_⟩
  simp only [r11_1b, sx, Nat.reduceBEq, Nat.reduceAdd, Nat.reduceLeDiff, reduceCtorEq]
  refine W_cnd rfl (fun hb => ?_) (fun hb => W_skip ?_)
  · refine W_seq (W_reg ?_)
    simp only [r11_2, sx, Nat.reduceBEq, Nat.reduceAdd, Nat.reduceLeDiff, reduceCtorEq]
    refine W_ret (RetQ.outQ hu (mle_refl _) rfl trivial ⟨?_, rfl, rfl⟩)
    congr 1
    simp only [Bool.cond_true_left] at hb
    refine (decide_eq_false fun h => ?_).symm
    subst h
    simp at hb
    omega
  have e1 : x.day = y.day ∧ x.keys = y.keys ∧ x.circles.length = y.circles.length ∧ x.lots.length = y.lots.length ∧ x.voids.length = y.voids.length := by
    simp only [Bool.cond_true_left] at hb
    simp at hb
    grind
  clear hb
  obtain ⟨ed, ek, ec, el, ev_⟩ := e1
  have hG : decide (x = y) = (decide (x.circles = y.circles) && decide (x.lots = y.lots) && decide (x.voids = y.voids)) := by
    rcases x with ⟨⟩
    rcases y with ⟨⟩
    simp at ed ek
    rw [Bool.eq_iff_iff]; simp [ed, ek, and_assoc]
  refine W_seq ?_
  refine W_seq (W_reg ?_)
  simp only [r11_3, sx, Nat.reduceBEq, Nat.reduceAdd, Nat.reduceLeDiff, reduceCtorEq]
  refine (W_blk (W_loop (fun m e bx own u' => ∃ i, i ≤ x.circles.length ∧ m = x.circles.length - i ∧ St [(2, .pointer (some ⟨b1, 0, none⟩)), (3, .pointer (some ⟨b2, 0, none⟩)), (5, ic i)] [⟨3, b2, [ic y.day, vk2, .slice ac2 cssc2.length cc2, .slice al2 (y.lots.map lotC).length cl2, .slice av2 (y.voids.map voidC).length cv2], 27⟩, ⟨2, b1, [ic x.day, vk, .slice ac cssc.length cc, .slice al (x.lots.map lotC).length cl, .slice av (x.voids.map voidC).length cv], 27⟩] (fun own u' => u = u' ∧ decide (x.circles = y.circles) = decide (x.circles.drop i = y.circles.drop i)) e bx own u') (m := x.circles.length) ⟨0, by omega, by omega, ?_⟩ ?_))
  · exact .mk ⟨rfl, rfl⟩
  rintro m e bx own u' ⟨i, hi, rfl, ⟨rfl, hs⟩⟩
  refine W_seq ?_
  refine W_seq (W_reg ?_)
  simp only [r11_4, sx, Nat.reduceBEq, Nat.reduceAdd, Nat.reduceLeDiff, reduceCtorEq]
  refine (W_cnd rfl (fun hc => W_skip ?_) (fun hc => W_exit ?_))
  · have hlt : i < cssc.length := by simpa using hc
    have hlt2 : i < cssc2.length := by omega
    have hlx : i < x.circles.length := by omega
    have hly : i < y.circles.length := by omega
    obtain ⟨o, off, rfl, hr⟩ := hrowc (by intro q; simp [q] at hlt)
    obtain ⟨o2, off2, rfl, hr2⟩ := hrowc2 (by intro q; simp [q] at hlt2)
    have hcell := SlC_at hr hlenc hlt
    have hcell2 := SlC_at hr2 hlenc2 hlt2
    have hxR := hallc.at_ hlt hlx
    have hyR := hallc2.at_ hlt2 hly
    rw [decEq_drop hlx hly] at hs
    refine W_seq (W_blk ?_)
    refine W_seq (W_drw (drawOK mixedP) ?_)
    simp only [WSD, A.wpD, r11_6, r11_6a, r11_6b, r11_6c, r11_6d, r11_6e, sx, Nat.reduceBEq, Nat.reduceAdd, Nat.reduceLeDiff, reduceCtorEq]
    refine ⟨by omega, _, hcell.lrow, hlenc _ (List.getElem_mem hlt), ?_⟩
    refine ⟨by omega, _, hcell2.lrow, hlenc2 _ (List.getElem_mem hlt2), ?_⟩
    refine ⟨_, same47 hxR hyR, ?_⟩
    refine W_seq (W_reg ?_)
    simp only [r11_7, sx, Nat.reduceBEq, Nat.reduceAdd, Nat.reduceLeDiff, reduceCtorEq]
    refine W_cnd rfl (fun hb => ?_) (fun hb => W_skip ?_)
    · refine W_seq (W_reg ?_)
      simp only [r11_8, sx, Nat.reduceBEq, Nat.reduceAdd, Nat.reduceLeDiff, reduceCtorEq]
      refine W_ret (RetQ.outQ hu (mle_refl _) rfl trivial ⟨?_, rfl, rfl⟩)
      have : decide (x.circles[i] = y.circles[i]) = false := by simpa using hb
      rw [this, Bool.false_and] at hs
      rw [hG, hs]; simp
    · refine W_reg ?_
      simp only [r11_5, sx, Nat.reduceBEq, Nat.reduceAdd, Nat.reduceLeDiff, reduceCtorEq]
      rw [wrapS hlt hmaxc]
      refine ⟨_, by omega, i + 1, by omega, rfl, .mk ⟨rfl, ?_⟩⟩
      have : decide (x.circles[i] = y.circles[i]) = true := by simpa using hb
      rw [hs, this]; rfl
  have hge : ¬ i < x.circles.length := by simp at hc; omega
  rw [List.drop_eq_nil_of_le (by omega), List.drop_eq_nil_of_le (by omega)] at hs
  have hsc : decide (x.circles = y.circles) = true := by rw [hs]; rfl
  clear hc hge hi hs
  refine W_seq ?_
  refine W_seq (W_reg ?_)
  simp only [r11_9, sx, Nat.reduceBEq, Nat.reduceAdd, Nat.reduceLeDiff, reduceCtorEq]
  refine (W_blk (W_loop (fun m e bx own u' => ∃ i, i ≤ x.lots.length ∧ m = x.lots.length - i ∧ St [(2, .pointer (some ⟨b1, 0, none⟩)), (3, .pointer (some ⟨b2, 0, none⟩)), (7, ic i)] [⟨3, b2, [ic y.day, vk2, .slice ac2 cssc2.length cc2, .slice al2 (y.lots.map lotC).length cl2, .slice av2 (y.voids.map voidC).length cv2], 27⟩, ⟨2, b1, [ic x.day, vk, .slice ac cssc.length cc, .slice al (x.lots.map lotC).length cl, .slice av (x.voids.map voidC).length cv], 27⟩] (fun own u' => u = u' ∧ decide (x.lots = y.lots) = decide (x.lots.drop i = y.lots.drop i)) e bx own u') (m := x.lots.length) ⟨0, by omega, by omega, ?_⟩ ?_))
  · exact .mk ⟨rfl, rfl⟩
  rintro m e bx own u' ⟨i, hi, rfl, ⟨rfl, hs⟩⟩
  refine W_seq ?_
  refine W_seq (W_reg ?_)
  simp only [r11_10, sx, Nat.reduceBEq, Nat.reduceAdd, Nat.reduceLeDiff, reduceCtorEq]
  refine (W_cnd rfl (fun hc => W_skip ?_) (fun hc => W_exit ?_))
  · have hlt : i < x.lots.length := by simpa using hc
    have hlt2 : i < y.lots.length := by omega
    obtain ⟨o, off, rfl, hr⟩ := hrowl (map_ne hlt)
    obtain ⟨o2, off2, rfl, hr2⟩ := hrowl2 (map_ne hlt2)
    have hcell := SlC_at hr hlenl (by simpa using hlt)
    have hcell2 := SlC_at hr2 hlenl2 (by simpa using hlt2)
    rw [List.getElem_map] at hcell hcell2
    rw [decEq_drop hlt hlt2] at hs
    refine W_seq (W_blk ?_)
    refine W_seq (W_drw (drawOK mixedP) ?_)
    simp only [WSD, A.wpD, r11_12, r11_12a, r11_12b, r11_12c, r11_12d, sx, Nat.reduceBEq, Nat.reduceAdd, Nat.reduceLeDiff, reduceCtorEq]
    refine ⟨by rw [List.length_map]; omega, lotC x.lots[i], hcell.lrow, rfl, ?_⟩
    refine ⟨by rw [List.length_map]; omega, lotC y.lots[i], hcell2.lrow, rfl, ?_⟩
    simp only [lotC, kok, k1ok, ceq, c1eq, Bool.and_true, sx, Nat.reduceBEq, Nat.reduceAdd, Nat.reduceLeDiff, reduceCtorEq]
    have hq : (x.lots[i].mark == y.lots[i].mark && (x.lots[i].from_ == y.lots[i].from_ && (x.lots[i].to_ == y.lots[i].to_ && (x.lots[i].owner == y.lots[i].owner && (x.lots[i].holder == y.lots[i].holder && (x.lots[i].until_ == y.lots[i].until_ && x.lots[i].spent == y.lots[i].spent)))))) = decide (x.lots[i] = y.lots[i]) := by
      generalize x.lots[i] = x
      generalize y.lots[i] = y
      rcases x with ⟨⟩; rcases y with ⟨⟩; rw [Bool.eq_iff_iff]; simp [and_assoc]
    rw [hq]
    refine W_cnd rfl (fun hb => ?_) (fun hb => W_skip ?_)
    · refine W_seq (W_reg ?_)
      simp only [r11_13, sx, Nat.reduceBEq, Nat.reduceAdd, Nat.reduceLeDiff, reduceCtorEq]
      refine W_ret (RetQ.outQ hu (mle_refl _) rfl trivial ⟨?_, rfl, rfl⟩)
      have : decide (x.lots[i] = y.lots[i]) = false := by simpa using hb
      rw [this, Bool.false_and] at hs
      rw [hG, hs]; simp
    · refine W_reg ?_
      simp only [r11_11, sx, Nat.reduceBEq, Nat.reduceAdd, Nat.reduceLeDiff, reduceCtorEq]
      rw [wrapS hlt hmaxl]
      refine ⟨_, by omega, i + 1, by omega, rfl, .mk ⟨rfl, ?_⟩⟩
      have : decide (x.lots[i] = y.lots[i]) = true := by simpa using hb
      rw [hs, this]; rfl
  have hge : ¬ i < x.lots.length := by simp at hc; omega
  rw [List.drop_eq_nil_of_le (by omega), List.drop_eq_nil_of_le (by omega)] at hs
  have hsl : decide (x.lots = y.lots) = true := by rw [hs]; rfl
  clear hc hge hi hs
  refine W_seq ?_
  refine W_seq (W_reg ?_)
  simp only [r11_14, sx, Nat.reduceBEq, Nat.reduceAdd, Nat.reduceLeDiff, reduceCtorEq]
  refine (W_blk (W_loop (fun m e bx own u' => ∃ i, i ≤ x.voids.length ∧ m = x.voids.length - i ∧ St [(2, .pointer (some ⟨b1, 0, none⟩)), (3, .pointer (some ⟨b2, 0, none⟩)), (8, ic i)] [⟨3, b2, [ic y.day, vk2, .slice ac2 cssc2.length cc2, .slice al2 (y.lots.map lotC).length cl2, .slice av2 (y.voids.map voidC).length cv2], 27⟩, ⟨2, b1, [ic x.day, vk, .slice ac cssc.length cc, .slice al (x.lots.map lotC).length cl, .slice av (x.voids.map voidC).length cv], 27⟩] (fun own u' => u = u' ∧ decide (x.voids = y.voids) = decide (x.voids.drop i = y.voids.drop i)) e bx own u') (m := x.voids.length) ⟨0, by omega, by omega, ?_⟩ ?_))
  · exact .mk ⟨rfl, rfl⟩
  rintro m e bx own u' ⟨i, hi, rfl, ⟨rfl, hs⟩⟩
  refine W_seq ?_
  refine W_seq (W_reg ?_)
  simp only [r11_15, sx, Nat.reduceBEq, Nat.reduceAdd, Nat.reduceLeDiff, reduceCtorEq]
  refine (W_cnd rfl (fun hc => W_skip ?_) (fun hc => W_exit ?_))
  · have hlt : i < x.voids.length := by simpa using hc
    have hlt2 : i < y.voids.length := by omega
    obtain ⟨o, off, rfl, hr⟩ := hrowv (map_ne hlt)
    obtain ⟨o2, off2, rfl, hr2⟩ := hrowv2 (map_ne hlt2)
    have hcell := SlC_at hr hlenv (by simpa using hlt)
    have hcell2 := SlC_at hr2 hlenv2 (by simpa using hlt2)
    rw [List.getElem_map] at hcell hcell2
    rw [decEq_drop hlt hlt2] at hs
    refine W_seq (W_blk ?_)
    refine W_seq (W_drw (drawOK mixedP) ?_)
    simp only [WSD, A.wpD, r11_17, r11_17a, r11_17b, r11_17c, r11_17d, sx, Nat.reduceBEq, Nat.reduceAdd, Nat.reduceLeDiff, reduceCtorEq]
    refine ⟨by rw [List.length_map]; omega, voidC x.voids[i], hcell.lrow, rfl, ?_⟩
    refine ⟨by rw [List.length_map]; omega, voidC y.voids[i], hcell2.lrow, rfl, ?_⟩
    simp only [voidC, kok, k1ok, ceq, c1eq, Bool.and_true, sx, Nat.reduceBEq, Nat.reduceAdd, Nat.reduceLeDiff, reduceCtorEq]
    have hq : (x.voids[i].mark == y.voids[i].mark && x.voids[i].err == y.voids[i].err) = decide (x.voids[i] = y.voids[i]) := by
      generalize x.voids[i] = x
      generalize y.voids[i] = y
      rcases x with ⟨⟩; rcases y with ⟨⟩; rw [Bool.eq_iff_iff]; simp [and_assoc]
    rw [hq]
    refine W_cnd rfl (fun hb => ?_) (fun hb => W_skip ?_)
    · refine W_seq (W_reg ?_)
      simp only [r11_18, sx, Nat.reduceBEq, Nat.reduceAdd, Nat.reduceLeDiff, reduceCtorEq]
      refine W_ret (RetQ.outQ hu (mle_refl _) rfl trivial ⟨?_, rfl, rfl⟩)
      have : decide (x.voids[i] = y.voids[i]) = false := by simpa using hb
      rw [this, Bool.false_and] at hs
      rw [hG, hs]; simp
    · refine W_reg ?_
      simp only [r11_16, sx, Nat.reduceBEq, Nat.reduceAdd, Nat.reduceLeDiff, reduceCtorEq]
      rw [wrapS hlt hmaxv]
      refine ⟨_, by omega, i + 1, by omega, rfl, .mk ⟨rfl, ?_⟩⟩
      have : decide (x.voids[i] = y.voids[i]) = true := by simpa using hb
      rw [hs, this]; rfl
  have hge : ¬ i < x.voids.length := by simp at hc; omega
  rw [List.drop_eq_nil_of_le (by omega), List.drop_eq_nil_of_le (by omega)] at hs
  have hsv : decide (x.voids = y.voids) = true := by rw [hs]; rfl
  clear hc hge hi hs
  refine W_seq (W_reg ?_)
  simp only [r11_19, sx, Nat.reduceBEq, Nat.reduceAdd, Nat.reduceLeDiff, reduceCtorEq]
  refine W_ret (RetQ.outQ hu (mle_refl _) rfl trivial ⟨?_, rfl, rfl⟩)
  rw [hG, hsc, hsl, hsv]; rfl
end Go.Proofs.YtenmmfkgopffgaaGreatDoor

set_option maxRecDepth 4000
set_option linter.unnecessarySimpa false
namespace Go.Proofs.YtenmmfkgopffgaaGreatDoor
open Go

theorem text_of_few {s : State} (h : fewB s = true) : rightB s = true → okState s ∧ (tState s).length ≤ big := fun hr =>
  ⟨ok_of_right hr (sz_of_few h), Nat.le_trans (state_lim h) (by decide)⟩
theorem textB_len {s : State} (h : fewB s = true) : (textB s).length ≤ 1000000 := by
  unfold textB
  cases rightB s
  · simp
  · exact state_lim h
theorem zero_state (M : MP) : stateR M [ic 0, .slice none 0 0, .slice none 0 0, .slice none 0 0, .slice none 0 0] zeroS := by
  refine ⟨_, _, _, _, rfl, ?_, ⟨[], ?_, trivial⟩, ?_, ?_⟩ <;> exact ⟨none, 0, rfl, by simp [zeroS], by simp [zeroS], by simp [zeroS], by simp [zeroS]⟩
theorem sv_eq (a b : Str) : ((⟨a.toArray⟩ : ByteArray) = ⟨b.toArray⟩) = (a = b) := by
  simp
theorem text_bad {s : State} (h : rightB s = false) : textB s = [] := by unfold textB; rw [h]; rfl
theorem ba_nil : (⟨#[]⟩ : ByteArray).toList = [] := ba_list []
theorem bool_ne (b : Bool) : ((!(b == b)) = false) := by cases b <;> rfl
theorem textB_right {s : State} (h : rightB s = true) : textB s = tState s := by unfold textB; rw [h]; rfl
theorem two0 : ((2 : Int) == 0) = false := rfl
theorem read_nil : readB [] = (zeroS, 2) := by rfl
attribute [local irreducible] textB readB rightB fewB in
set_option maxHeartbeats 1000000 in
theorem back_tail {cx : Ctx} {t : Str} {u : Mem} {R : Ex → Env → List Box → List HP → Mem → Prop} (g : GM u) (ht : t.length ≤ maxR) (hR : R = RetQ cx [.t 6] fun v own' u' => v = .bool true ∧ own' = []) :
    W Tryz.prog (chkD Tryz.prog) Tryz.f3.ntmps cx k3_13 R [(2, sv t), (7, .bool true), (64, .bool false)] [] [] u := by
  subst hR
  refine W_seq (W_reg ?_)
  simp only [r3_10, r3_10a, r3_10b, r3_10c, r3_10d, r3_10e, sx, Nat.reduceBEq, Nat.reduceAdd, Nat.reduceLeDiff, reduceCtorEq]
  refine CallW.u (read_c g ht) ?_
  rintro v2 own' u2 ⟨csr, rfl, rfl, hr2⟩ hle2
  have g2 := g.mono hle2
  obtain ⟨wk, wc, wl, wv, rfl, wk1, wc1, wl1, wv1⟩ := id hr2
  try simp only [sx, Nat.reduceBEq, Nat.reduceAdd, Nat.reduceLeDiff, reduceCtorEq]
  intro b3
  refine ⟨⟨wk1.one, wc1.one, wl1.one, wv1.one⟩, ?_⟩
  refine W_seq ?_
  refine W_seq (W_reg ?_)
  simp only [r3_11, sx, Nat.reduceBEq, Nat.reduceAdd, Nat.reduceLeDiff, reduceCtorEq]
  by_cases hz : (readB t).2 = 0
  · obtain ⟨hra, htx⟩ := read_ok hz
    have hze : ((readB t).2 == 0) = true := by simpa using hz
    have hto : rightB (readB t).1 = true → okState (readB t).1 ∧ (tState (readB t).1).length ≤ big := fun _ => by
      have h1 : textB (readB t).1 = tState (readB t).1 := textB_right hra
      rw [← h1, htx]
      exact ⟨ok_of_right hra (szS_R hr2), by unfold maxR at ht; unfold big; omega⟩
    simp only [hze]
    try simp only [sx, Nat.reduceBEq, Nat.reduceAdd, Nat.reduceLeDiff, reduceCtorEq]
    refine W_cnd rfl (fun hb => ?_) (fun hb => W_skip ?_)
    · refine W_seq (W_reg ?_)
      simp only [r3_12, r3_12a, r3_12b, r3_12c, r3_12d, sx, Nat.reduceBEq, Nat.reduceAdd, Nat.reduceLeDiff, reduceCtorEq]
      refine ⟨_, right_c hr2, ?_⟩
      simp only [hra]
      simp only [sx, Nat.reduceBEq, Nat.reduceAdd, Nat.reduceLeDiff, reduceCtorEq]
      refine ⟨_, text_c g2 hr2 hto, ?_⟩
      rw [htx]
      simp only [sx, Nat.reduceBEq, Nat.reduceAdd, Nat.reduceLeDiff, reduceCtorEq]
      exact W_ret (RetQ.outG rfl trivial (fun w i => i) ⟨by simp, rfl⟩)
    · simp at hb
  · have hbd := read_bad hz
    have hze : ((readB t).2 == 0) = false := by simpa using hz
    have hz2 : (readB t).2 = 2 := by rw [hbd]
    have hz1 : (readB t).1 = zeroS := by rw [hbd]
    simp only [hze]
    rw [hz1] at hr2 ⊢
    rw [hz2]
    try simp only [sx, Nat.reduceBEq, Nat.reduceAdd, Nat.reduceLeDiff, reduceCtorEq]
    refine W_cnd rfl (fun hb => ?_) (fun hb => W_skip ?_)
    · simp at hb
    refine W_seq (W_reg ?_)
    simp only [r3_13, r3_13a, r3_13b, mksV, sx, Nat.reduceBEq, Nat.reduceAdd, Nat.reduceLeDiff, reduceCtorEq]
    refine ⟨_, refSame_c hr2 (zero_state _), ?_⟩
    simp only [decide_true]
    try simp only [sx, Nat.reduceBEq, Nat.reduceAdd, Nat.reduceLeDiff, reduceCtorEq]
    exact W_ret (RetQ.outG rfl trivial (fun w i => i) ⟨by simp, rfl⟩)
attribute [local irreducible] textB readB rightB fewB in
set_option maxHeartbeats 1000000 in
theorem stateBack_c (hsm : smallOk) {cs cs' : List Value} {a b : State} {t : Str} {u : Mem} (g : GM u) (ha0 : stateR (MU u) cs a) (hb0 : stateR (MU u) cs' b) (ht : t.length ≤ maxR) : Fn Tryz.prog 3 [.agg cs.toArray, .agg cs'.toArray, sv t] [] u fun v own' u' => v = .bool true ∧ own' = [] := by
  obtain ⟨vk, vc, vl, vv, rfl, hk, hc, hl, hvd⟩ := id ha0
  obtain ⟨vk2, vc2, vl2, vv2, rfl, hk2, hc2, hl2, hvd2⟩ := id hb0
  refine fn3 fun cx hu => ?_
  refine W_seq (W_reg ?_)
  simp only [r3_0, r3_0a, r3_0b, sx, Nat.reduceBEq, Nat.reduceAdd, Nat.reduceLeDiff, reduceCtorEq]
  intro b1 b2
  try refine ⟨⟨hk.one, hc.one, hl.one, hvd.one⟩, ⟨hk2.one, hc2.one, hl2.one, hvd2.one⟩, ?_⟩
  refine W_seq (W_reg ?_)
  simp only [r3_1, r3_1a, sx, Nat.reduceBEq, Nat.reduceAdd, Nat.reduceLeDiff, reduceCtorEq]
  refine CallW.u (hsm u g) ?_
  rintro v1 own' u1 ⟨rfl, rfl⟩ hle1
  have ha1 := stateR.mono ha0 (mpl_mu hle1)
  have hb1 := stateR.mono hb0 (mpl_mu hle1)
  have g1 := g.mono hle1
  simp only [sx, Nat.reduceBEq, Nat.reduceAdd, Nat.reduceLeDiff, reduceCtorEq]
  refine W_seq ?_
  refine W_seq (W_reg ?_)
  simp only [r3_2, r3_2a, r3_2b, r3_2c, r3_2d, sx, Nat.reduceBEq, Nat.reduceAdd, Nat.reduceLeDiff, reduceCtorEq]
  refine ⟨_, few_c ha1, ?_⟩
  simp only [sx, Nat.reduceBEq, Nat.reduceAdd, Nat.reduceLeDiff, reduceCtorEq]
  refine ⟨_, fun _ => few_c hb1, ?_⟩
  simp only [sx, Nat.reduceBEq, Nat.reduceAdd, Nat.reduceLeDiff, reduceCtorEq]
  refine W_cnd rfl (fun hb => ?_) (fun hb => W_skip ?_)
  · refine W_seq (W_reg ?_)
    simp only [r3_3, sx, Nat.reduceBEq, Nat.reduceAdd, Nat.reduceLeDiff, reduceCtorEq]
    exact W_ret (RetQ.outG rfl trivial (fun w i => i) ⟨rfl, rfl⟩)
  have hfa : fewB a = true := by cases h1 : fewB a <;> simp [h1] at hb ⊢
  have hfb : fewB b = true := by cases h2 : fewB b <;> simp [hfa, h2] at hb ⊢
  have hta := text_of_few hfa
  have htb := text_of_few hfb
  have hla := textB_len hfa
  clear hb
  simp only [sx, Nat.reduceBEq, Nat.reduceAdd, Nat.reduceLeDiff, reduceCtorEq]
  refine W_seq (W_reg ?_)
  simp only [r3_4, r3_4a, r3_4b, sx, Nat.reduceBEq, Nat.reduceAdd, Nat.reduceLeDiff, reduceCtorEq]
  refine ⟨_, text_c g1 ha1 hta, ?_⟩
  try simp only [sx, Nat.reduceBEq, Nat.reduceAdd, Nat.reduceLeDiff, reduceCtorEq]
  refine W_seq (W_reg ?_)
  simp only [r3_5, r3_5a, r3_5b, r3_5c, r3_5d, r3_5e, sx, Nat.reduceBEq, Nat.reduceAdd, Nat.reduceLeDiff, reduceCtorEq]
  refine CallW.u (read_c g1 (by unfold maxR; omega)) ?_
  rintro v2 own' u2 ⟨csr, rfl, rfl, hr2⟩ hle2
  have ha2 := stateR.mono ha1 (mpl_mu hle2)
  have hb2 := stateR.mono hb1 (mpl_mu hle2)
  have g2 := g1.mono hle2
  obtain ⟨wk, wc, wl, wv, rfl, wk1, wc1, wl1, wv1⟩ := id hr2
  try simp only [sx, Nat.reduceBEq, Nat.reduceAdd, Nat.reduceLeDiff, reduceCtorEq]
  intro b3
  refine ⟨⟨wk1.one, wc1.one, wl1.one, wv1.one⟩, ?_⟩
  refine W_seq ?_
  refine W_seq (W_reg ?_)
  simp only [r3_6, r3_6a, r3_6b, r3_6c, r3_6d, sx, Nat.reduceBEq, Nat.reduceAdd, Nat.reduceLeDiff, reduceCtorEq]
  refine ⟨_, right_c ha2, ?_⟩
  simp only [sx, Nat.reduceBEq, Nat.reduceAdd, Nat.reduceLeDiff, reduceCtorEq]
  cases hra : rightB a with
  | false =>
    rw [text_bad hra, read_nil] at hr2 ⊢
    refine ⟨_, fun _ => right_c ha2, ?_⟩
    simp only [ba_nil, ba_list, hra]
    simp only [sx, Nat.reduceBEq, Nat.reduceAdd, Nat.reduceLeDiff, reduceCtorEq]
    refine W_cnd rfl (fun hb => (by simp at hb)) (fun hb => W_skip ?_)
    clear hb
    refine W_seq ?_
    refine W_seq (W_drw (drawOK mixedP) ?_)
    simp only [WSD, A.wpD, r3_8, r3_8a, r3_8b, r3_8c, r3_8d, r3_8e, r3_8f, two0, sx, Nat.reduceBEq, Nat.reduceAdd, Nat.reduceLeDiff, reduceCtorEq]
    refine ⟨.bool true, ?_⟩
    simp only [WSD, A.wpD, two0, sx, Nat.reduceBEq, Nat.reduceAdd, Nat.reduceLeDiff, reduceCtorEq]
    refine ⟨.bool false, .string ⟨#[]⟩, ?_⟩
    simp only [WSD, A.wpD, two0, sx, Nat.reduceBEq, Nat.reduceAdd, Nat.reduceLeDiff, reduceCtorEq]
    refine W_cnd rfl (fun hb => (by simp at hb)) (fun hb => W_skip ?_)
    exact back_tail g2 ht rfl
  | true =>
    rw [read_text hra (sz_of_few hfa)] at hr2 ⊢
    have hne : (textB a == []) = false := by simpa using text_ne hra (sz_of_few hfa)
    refine ⟨_, fun _ => right_c ha2, ?_⟩
    simp only [ba_nil, ba_list, hra, hne]
    simp only [sx, Nat.reduceBEq, Nat.reduceAdd, Nat.reduceLeDiff, reduceCtorEq]
    refine W_cnd rfl (fun hb => (by simp at hb)) (fun hb => W_skip ?_)
    clear hb
    refine W_seq ?_
    refine W_seq (W_drw (drawOK mixedP) ?_)
    simp only [WSD, A.wpD, r3_8, r3_8a, r3_8b, r3_8c, r3_8d, r3_8e, r3_8f, sx, Nat.reduceBEq, Nat.reduceAdd, Nat.reduceLeDiff, reduceCtorEq]
    refine ⟨_, refSame_c hr2 ha2, ?_⟩
    simp only [decide_true]
    simp only [WSD, A.wpD, sx, Nat.reduceBEq, Nat.reduceAdd, Nat.reduceLeDiff, reduceCtorEq]
    refine ⟨_, same_c ha2 hb2, ?_⟩
    try simp only [WSD, A.wpD, sx, Nat.reduceBEq, Nat.reduceAdd, Nat.reduceLeDiff, reduceCtorEq]
    refine ⟨_, text_c g2 hb2 htb, ?_⟩
    try simp only [WSD, A.wpD, sx, Nat.reduceBEq, Nat.reduceAdd, Nat.reduceLeDiff, reduceCtorEq]
    have hke : ((textB b == textB a)) = decide (a = b) := by
      rw [Bool.eq_iff_iff]
      simp only [beq_iff_eq, decide_eq_true_eq]
      exact ⟨fun h => (text_inj hra (sz_of_few hfa) (sz_of_few hfb) h).symm, fun h => by rw [h]⟩
    simp only [ba_list, hke]
    try simp only [sx, Nat.reduceBEq, Nat.reduceAdd, Nat.reduceLeDiff, reduceCtorEq]
    refine W_cnd rfl (fun hb => (by simp at hb)) (fun hb => W_skip ?_)
    exact back_tail g2 ht rfl
end Go.Proofs.YtenmmfkgopffgaaGreatDoor

set_option maxRecDepth 4000
namespace Go.Proofs.YtenmmfkgopffgaaGreatDoor
open Go

theorem copy_c {cs : List Value} {x : State} {u : Mem} (hx : stateR (MU u) cs x) : Fn Tryz.prog 13 [.agg cs.toArray] [] u (CopyQ stateR x u) := by
  obtain ⟨vk, vc, vl, vv, rfl, hk, ⟨cssm, hsm, hallm⟩, hl, hv⟩ := hx
  have hlm := hallm.len
  refine fn13 fun cx hu => ?_
  refine W_seq (W_reg ?_)
  simp only [r13_0, r13_0a, sx, Nat.reduceBEq, Nat.reduceAdd, Nat.reduceLeDiff, reduceCtorEq]
  intro b1 b2
  refine W_seq (W_drw (drawOK mixedP) ?_)
  simp only [WSD, A.wpD, r13_1, r13_1a, sx, Nat.reduceBEq, Nat.reduceAdd, Nat.reduceLeDiff, reduceCtorEq]
  refine CallWD.u (clone53 hk (all1_map all1_i1 _)) ?_
  rintro vk2 own' u' ⟨rfl, bk, rfl, hk2, _⟩ _
  obtain ⟨ka, kn, kc, rfl⟩ := hk2.form
  simp only [r13_1b, r13_1c, WSD, A.wpD, sx, Nat.reduceBEq, Nat.reduceAdd, Nat.reduceLeDiff, reduceCtorEq]
  refine CallWD.u (clone54 hl (all1_map all1_lot _)) ?_
  rintro vl2 own' u' ⟨rfl, bl, rfl, hl2, _⟩ _
  obtain ⟨la, ln, lc, rfl⟩ := hl2.form
  simp only [r13_1d, WSD, A.wpD, sx, Nat.reduceBEq, Nat.reduceAdd, Nat.reduceLeDiff, reduceCtorEq]
  refine CallWD.u (clone55 hv (all1_map all1_void _)) ?_
  rintro vv2 own' u' ⟨rfl, bv, rfl, hv2, _⟩ _
  obtain ⟨va, vn, vd, rfl⟩ := hv2.form
  simp only [r13_1e, r13_1f, r13_1g, r13_1h, r13_1i, WSD, A.wpD, sx, Nat.reduceBEq, Nat.reduceAdd, Nat.reduceLeDiff, reduceCtorEq]
  refine W_seq (W_reg ?_)
  simp only [r13_2, r13_2a, sx, Nat.reduceBEq, Nat.reduceAdd, Nat.reduceLeDiff, reduceCtorEq]
  refine CallW.u (clone56 hsm (all1_rel all1_circle hallm)) ?_
  rintro vm2 own' u' ⟨rfl, bm, rfl, hsm2, Tm, hrm⟩ _
  obtain ⟨sma, smn, smc, rfl⟩ := hsm2.form
  simp only [r13_2b, r13_2c, sx, Nat.reduceBEq, Nat.reduceAdd, Nat.reduceLeDiff, reduceCtorEq]
  obtain ⟨br, hbr⟩ : ∃ br, br = bv ++ bl ++ bk := ⟨_, rfl⟩
  refine W_perm (own' := ownB bm ++ ownB br) ?_ ?_
  · rw [hbr]; simp [ownB_app]
  refine W_mid (fun e bx own u2 => ∃ bm', Sl 15 circleR (MB bm') (.slice sma smn smc) x.circles ∧ St [(1, .pointer (some ⟨b1, 0, none⟩)), (2, .pointer (some ⟨b2, 0, none⟩))] [⟨2, b2, [.int .i64 0, .slice none 0 0, .slice none 0 0, .slice none 0 0, .slice none 0 0], 27⟩, ⟨1, b1, [ic x.day, .slice ka kn kc, .slice sma smn smc, .slice la ln lc, .slice va vn vd], 27⟩] (fun own u2 => u' = u2 ∧ own = ownB bm' ++ ownB br) e bx own u2) ?_ ?_
  · by_cases h0 : cssm = []
    · subst h0
      have hx0 : x.circles = [] := List.eq_nil_of_length_eq_zero (by simpa using hlm.symm)
      obtain ⟨_, _, hq1, _⟩ := id hsm2
      injection hq1 with q1 q2 q3
      refine W_seq (W_reg ?_)
      simp only [r13_3, sx, Nat.reduceBEq, Nat.reduceAdd, Nat.reduceLeDiff, reduceCtorEq]
      refine W_blk (W_loop (fun m e bx own u2 => m = 0 ∧ St [(1, .pointer (some ⟨b1, 0, none⟩)), (2, .pointer (some ⟨b2, 0, none⟩)), (22, .slice sma 0 smc), (23, ic 0), (24, ic 0)] [⟨2, b2, [.int .i64 0, .slice none 0 0, .slice none 0 0, .slice none 0 0, .slice none 0 0], 27⟩, ⟨1, b1, [ic x.day, .slice ka kn kc, .slice sma smn smc, .slice la ln lc, .slice va vn vd], 27⟩] (fun own u2 => u' = u2 ∧ own = ownB bm ++ ownB br) e bx own u2) (m := 0) ⟨rfl, ?_⟩ ?_)
      · subst q2; exact .mk ⟨rfl, rfl⟩
      · rintro m e bx own u2 ⟨rfl, ⟨rfl, rfl⟩⟩
        refine W_seq (W_reg ?_)
        simp only [r13_4, sx, Nat.reduceBEq, Nat.reduceAdd, Nat.reduceLeDiff, reduceCtorEq]
        refine W_seq (W_cnd rfl (fun hc => by simp at hc) (fun hc => ?_))
        refine W_env (e' := [(1, .pointer (some ⟨b1, 0, none⟩)), (2, .pointer (some ⟨b2, 0, none⟩))]) (fun t v h => lk_pre h) (W_exit ?_)
        simp only [sx, Nat.reduceBEq, Nat.reduceAdd, Nat.reduceLeDiff, reduceCtorEq]
        exact ⟨bm, ⟨[], hsm2, by rw [hx0]; trivial⟩, .mk ⟨rfl, rfl⟩⟩
    · obtain ⟨hl, ⟨_, hn0, _⟩ | ⟨g, cap, cur, hsl, rfl, hcap, hcm, hcs, htk⟩⟩ := hrm
      · exact absurd (List.eq_nil_of_length_eq_zero hn0) h0
      injection hsl with q1 q2 q3
      subst q1; subst q2; subst q3
      have hmaxm : cssm.length ≤ maxN := by obtain ⟨_, _, _, h, _⟩ := id hsm2; exact h
      have hlenm : ∀ cs ∈ cssm, cs.length = 15 := by obtain ⟨_, _, _, _, _, _, h⟩ := id hsm2; exact h
      obtain ⟨tail, htail⟩ : ∃ tail, cur.toList = cssm.flatten ++ tail := ⟨cur.toList.drop (cssm.length * 15), by rw [← htk, List.take_append_drop]⟩
      refine W_gh (bx' := ⟨900, g, cssm.flatten ++ tail, Tm⟩ :: [⟨2, b2, [.int .i64 0, .slice none 0 0, .slice none 0 0, .slice none 0 0, .slice none 0 0], 27⟩, ⟨1, b1, [ic x.day, .slice ka kn kc, .slice (some ⟨g, 0, none⟩) cssm.length smc, .slice la ln lc, .slice va vn vd], 27⟩]) (own' := ownB br) (fun w i => i.perm ?_) ?_
      · unfold props
        rw [← htail]
        have : (Box.hp ⟨900, g, cur.toList, Tm⟩ : HP) = Blk g (.cells cur Tm (0, 0)) := by simp [Box.hp]
        show List.Perm (List.map Box.hp [⟨2, b2, [.int .i64 0, .slice none 0 0, .slice none 0 0, .slice none 0 0, .slice none 0 0], 27⟩, ⟨1, b1, [ic x.day, .slice ka kn kc, .slice (some ⟨g, 0, none⟩) cssm.length smc, .slice la ln lc, .slice va vn vd], 27⟩] ++ (Blk g (.cells cur Tm (0, 0)) :: ownB br)) (Box.hp ⟨900, g, cur.toList, Tm⟩ :: (List.map Box.hp [⟨2, b2, [.int .i64 0, .slice none 0 0, .slice none 0 0, .slice none 0 0, .slice none 0 0], 27⟩, ⟨1, b1, [ic x.day, .slice ka kn kc, .slice (some ⟨g, 0, none⟩) cssm.length smc, .slice la ln lc, .slice va vn vd], 27⟩] ++ ownB br))
        rw [this]; exact List.perm_middle
      refine W_seq (W_reg ?_)
      simp only [r13_3, sx, Nat.reduceBEq, Nat.reduceAdd, Nat.reduceLeDiff, reduceCtorEq]
      refine W_blk (W_loop (fun m e bx own u2 => ∃ i news bsA, i ≤ cssm.length ∧ m = cssm.length - i ∧ news.length = i ∧ All2 (circleR (MB bsA)) news (x.circles.take i) ∧ (∀ cs ∈ news, cs.length = 15) ∧ St [(1, .pointer (some ⟨b1, 0, none⟩)), (2, .pointer (some ⟨b2, 0, none⟩)), (22, .slice (some ⟨g, 0, none⟩) cssm.length smc), (23, ic cssm.length), (24, ic i)] (⟨900, g, (news ++ cssm.drop i).flatten ++ tail, Tm⟩ :: [⟨2, b2, [.int .i64 0, .slice none 0 0, .slice none 0 0, .slice none 0 0, .slice none 0 0], 27⟩, ⟨1, b1, [ic x.day, .slice ka kn kc, .slice (some ⟨g, 0, none⟩) cssm.length smc, .slice la ln lc, .slice va vn vd], 27⟩]) (fun own u2 => u' = u2 ∧ own = ownB bsA ++ ownB br) e bx own u2) (m := cssm.length) ⟨0, [], [], by omega, by omega, rfl, trivial, by simp, ?_⟩ ?_)
      · exact .mk ⟨rfl, rfl⟩
      rintro m e bx own u2 ⟨i, news, bsA, hi, rfl, hnl, hall2, hn5, ⟨rfl, rfl⟩⟩
      refine W_seq (W_reg ?_)
      simp only [r13_4, sx, Nat.reduceBEq, Nat.reduceAdd, Nat.reduceLeDiff, reduceCtorEq]
      refine W_seq (W_cnd rfl (fun hc => W_skip ?_) (fun hc => ?_))
      · have hlt : i < cssm.length := by simpa using hc
        have hlx : i < x.circles.length := by omega
        refine W_seq (W_blk ?_)
        have hdrop := List.drop_eq_getElem_cons hlt
        have hk5 : ∀ cs ∈ news ++ cssm.drop i, cs.length = 15 := fun cs hcs => by
          rcases List.mem_append.1 hcs with h | h
          · exact hn5 cs h
          · exact hlenm cs (List.mem_of_mem_drop h)
        have hat : i < (news ++ cssm.drop i).length := by simp; omega
        have hget : (news ++ cssm.drop i)[i] = cssm[i] := by
          rw [List.getElem_append_right (by omega)]; simp [hnl]
        have hci := hallm.at_ hlt hlx
        obtain ⟨vm, vp, vb, vt, vo, vu, vq, vc, heq, ht, hm, hp, hb_, htu, hpo, hou, hq, hcl⟩ := id hci
        have hrd : lrow (⟨900, g, (news ++ cssm.drop i).flatten ++ tail, Tm⟩ :: [⟨2, b2, [.int .i64 0, .slice none 0 0, .slice none 0 0, .slice none 0 0, .slice none 0 0], 27⟩, ⟨1, b1, [ic x.day, .slice ka kn kc, .slice (some ⟨g, 0, none⟩) cssm.length smc, .slice la ln lc, .slice va vn vd], 27⟩]) u' g (i * 15) cssm[i] := by
          have := brow_at (bx := ⟨900, g, (news ++ cssm.drop i).flatten ++ tail, Tm⟩ :: [⟨2, b2, [.int .i64 0, .slice none 0 0, .slice none 0 0, .slice none 0 0, .slice none 0 0], 27⟩, ⟨1, b1, [ic x.day, .slice ka kn kc, .slice (some ⟨g, 0, none⟩) cssm.length smc, .slice la ln lc, .slice va vn vd], 27⟩]) (nm := 900) (g := g) (T := Tm) (tail := tail) (List.mem_cons_self ..) hk5 hat (u := u')
          rw [hget] at this
          exact this
        rw [heq] at hrd hci
        refine W_seq (W_reg ?_)
        simp only [r13_5, r13_5a, r13_5b, r13_5c, r13_5d, sx, Nat.reduceBEq, Nat.reduceAdd, Nat.reduceLeDiff, reduceCtorEq]
        refine ⟨by omega, _, hrd, rfl, ?_⟩
        simp only [sx, Nat.reduceBEq, Nat.reduceAdd, Nat.reduceLeDiff, reduceCtorEq]
        intro b4
        refine ⟨⟨hm.one, hp.one, hb_.one, htu.one, hpo.one, hou.one, hq.one, hcl.one⟩, ?_⟩
        refine W_drw (drawOK mixedP) ?_
        simp only [WSD, A.wpD, r13_6, r13_6a, sx, Nat.reduceBEq, Nat.reduceAdd, Nat.reduceLeDiff, reduceCtorEq]
        refine CallWD.u (copied_c hci) ?_
        rintro v own' u3 ⟨rfl, cs', bs', rfl, rfl, hcs'⟩ _
        have hl5 : cs'.length = 15 := by obtain ⟨_, _, _, _, _, _, _, _, rfl, _⟩ := id hcs'; rfl
        have ha5 : all1 cs' := all1_circle hcs'
        simp only [WSD, A.wpD, r13_6b, r13_6c, sx, Nat.reduceBEq, Nat.reduceAdd, Nat.reduceLeDiff, reduceCtorEq]
        have hbl : ((news ++ cssm.drop i).flatten ++ tail).length = cssm.length * 15 + tail.length := by
          rw [List.length_append, flat_len hk5]; simp; omega
        refine ⟨by omega, 900, _, rfl, rfl, hl5, by rw [hbl]; omega, ha5, ?_⟩
        have hset : setAt ((news ++ cssm.drop i).flatten ++ tail) (i * 15) cs' = ((news ++ [cs']) ++ cssm.drop (i + 1)).flatten ++ tail := by
          have := setAt_flat (news := news) (olds := cssm.drop (i + 1)) (c := cssm[i]) (vs := cs') (tail := tail) hn5 (hlenm _ (List.getElem_mem hlt)) hl5
          rw [hnl] at this
          rw [hdrop]; exact this
        simp only [hset, sx, Nat.reduceBEq, Nat.reduceAdd, Nat.reduceLeDiff, reduceCtorEq]
        refine W_reg ?_
        simp only [r13_7, sx, Nat.reduceBEq, Nat.reduceAdd, Nat.reduceLeDiff, reduceCtorEq]
        rw [wrapS hlt hmaxm]
        refine ⟨_, by omega, i + 1, news ++ [cs'], bs' ++ bsA, by omega, rfl, by simp [hnl], ?_, ?_, ?_⟩
        · rw [List.take_succ_eq_append_getElem hlx]
          exact (hall2.mono fun a b h => circleR.mono h mb_right).app (circleR.mono hcs' mb_left)
        · intro cs hcs
          rcases List.mem_append.1 hcs with h | h
          · exact hn5 cs h
          · simp at h; rw [h]; exact hl5
        · exact .mk ⟨rfl, by simp [ownB_app]⟩
      · have hge : ¬ i < cssm.length := by simpa using hc
        refine W_env (e' := [(1, .pointer (some ⟨b1, 0, none⟩)), (2, .pointer (some ⟨b2, 0, none⟩))]) (fun t v h => lk_pre h) ?_
        rw [List.drop_eq_nil_of_le (by omega), List.append_nil]
        rw [List.take_of_length_le (by omega)] at hall2
        refine W_gh (bx' := [⟨2, b2, [.int .i64 0, .slice none 0 0, .slice none 0 0, .slice none 0 0, .slice none 0 0], 27⟩, ⟨1, b1, [ic x.day, .slice ka kn kc, .slice (some ⟨g, 0, none⟩) cssm.length smc, .slice la ln lc, .slice va vn vd], 27⟩]) (own' := ownB ((g, .cells (news.flatten ++ tail).toArray Tm (0, 0)) :: bsA) ++ ownB br) (fun w i => i.perm ?_) (W_exit ?_)
        · unfold props
          exact List.perm_middle.symm
        simp only [sx, Nat.reduceBEq, Nat.reduceAdd, Nat.reduceLeDiff, reduceCtorEq]
        refine ⟨(g, .cells (news.flatten ++ tail).toArray Tm (0, 0)) :: bsA, ⟨news, ?_, hall2.mono fun a b h => circleR.mono h (fun b o hb => List.mem_cons_of_mem _ hb)⟩, .mk ⟨rfl, rfl⟩⟩
        have hnn : news.length = cssm.length := by omega
        have : Value.slice (some ⟨g, 0, none⟩) cssm.length smc = .slice (some ⟨g, 0, none⟩) news.length smc := by rw [hnn]
        rw [this]
        refine ⟨_, smc, rfl, by omega, by omega, fun _ => ⟨g, 0, rfl, _, Tm, (0, 0), List.mem_cons_self .., by simp⟩, hn5⟩
  · rintro e bx own u2 ⟨bm', hM, ⟨rfl, rfl⟩⟩
    refine W_seq (W_reg ?_)
    simp only [r13_8, r13_8a, sx, Nat.reduceBEq, Nat.reduceAdd, Nat.reduceLeDiff, reduceCtorEq]
    refine W_ret (RetQ.out rfl ⟨rfl, rfl⟩ ⟨rfl, _, bm' ++ br, by simp [ownB_app], rfl, ?_⟩)
    have l1 : mpl (MB br) (MB (bm' ++ br)) := mb_right
    have lk_ : mpl (MB bk) (MB br) := fun b o h => by rw [hbr]; simp [MB] at h ⊢; simp [h]
    have ll : mpl (MB bl) (MB br) := fun b o h => by rw [hbr]; simp [MB] at h ⊢; simp [h]
    have lv : mpl (MB bv) (MB br) := fun b o h => by rw [hbr]; simp [MB] at h ⊢; simp [h]
    exact ⟨_, _, _, _, rfl, (hk2.mono lk_).mono l1, Sl.mono (R := circleR) (fun _ _ _ _ => circleR.mono) hM mb_left, (hl2.mono ll).mono l1, (hv2.mono lv).mono l1⟩
end Go.Proofs.YtenmmfkgopffgaaGreatDoor

set_option maxRecDepth 4000
namespace Go.Proofs.YtenmmfkgopffgaaGreatDoor
open Go

def zeroX : Claim := ⟨0, 0, 0, 0, 0, 0, 0, [], [], 0, 0, 0⟩
theorem zeroX_R (M : MP) : claimR M [ic 0, ic 0, ic 0, ic 0, ic 0, ic 0, ic 0, .slice none 0 0, .slice none 0 0, ic 0, ic 0, ic 0] zeroX := ⟨_, _, rfl, nilSlC M 1, nilSlC M 1⟩
theorem find_cons_app {α : Type} {p : α → Bool} {l r : List α} {i : Nat} (hi : i < l.length) : (l.drop i ++ r).find? p = bif p l[i] then some l[i] else (l.drop (i + 1) ++ r).find? p := by
  rw [List.drop_eq_getElem_cons hi, List.cons_append, List.find?_cons]
  cases p l[i] <;> rfl
theorem claim_look {cs : List Value} {x : State} {u : Mem} (key : Int) (hx : stateR (MU u) cs x) : Fn Tryz.prog 21 [.agg cs.toArray, ic key] [] u (FindQ claimR zeroX ((x.circles.flatMap fun c => c.claims).find? fun m => m.mark == key) u) := by
  obtain ⟨vk, vc, vl, vv, rfl, hk, ⟨css, ⟨a, c, rfl, hmax, hcap, hrow, hlen⟩, hall⟩, hlo, hvo⟩ := hx
  have hl := hall.len
  refine fn21 fun cx hu => ?_
  refine W_seq (W_reg ?_)
  simp only [r21_0, r21_0a, r21_0b, sx, Nat.reduceBEq, Nat.reduceAdd, Nat.reduceLeDiff, reduceCtorEq]
  intro b2 b4
  refine W_seq ?_
  refine W_seq (W_reg ?_)
  simp only [r21_1, sx, Nat.reduceBEq, Nat.reduceAdd, Nat.reduceLeDiff, reduceCtorEq]
  refine W_blk (W_loop (fun m e bx own u' => ∃ i, i ≤ css.length ∧ m = css.length - i ∧ St [(1, ic key), (4, .pointer (some ⟨b4, 0, none⟩)), (11, .slice a css.length c), (12, ic css.length), (13, ic i)] [⟨4, b4, [.int .i64 0, .int .i64 0, .int .i64 0, .int .i64 0, .int .i64 0, .int .i64 0, .int .i64 0, .slice none 0 0, .slice none 0 0, .int .i64 0, .int .i64 0, .int .i64 0], 65⟩] (fun own u' => u = u' ∧ own = [] ∧ ((x.circles.flatMap fun c => c.claims).find? fun m => m.mark == key) = ((x.circles.drop i).flatMap fun c => c.claims).find? fun m => m.mark == key) e bx own u') (m := css.length) ⟨0, by omega, by omega, ?_⟩ ?_)
  · exact .mk ⟨rfl, rfl, rfl⟩
  rintro m e bx own u' ⟨i, hi, rfl, ⟨rfl, rfl, hs⟩⟩
  refine W_seq (W_reg ?_)
  simp only [r21_2, sx, Nat.reduceBEq, Nat.reduceAdd, Nat.reduceLeDiff, reduceCtorEq]
  refine W_seq (W_cnd rfl (fun hc => W_skip ?_) (fun hc => W_exit ?_))
  rotate_left
  · have hge : ¬ i < css.length := by simpa using hc
    rw [List.drop_eq_nil_of_le (by omega)] at hs
    refine W_seq (W_reg ?_)
    simp only [r21_11, r21_11a, r21_11b, mksV, sx, Nat.reduceBEq, Nat.reduceAdd, Nat.reduceLeDiff, reduceCtorEq]
    refine W_ret (RetQ.out rfl ⟨⟨rfl, rfl⟩, trivial, trivial⟩ ⟨rfl, [ic 0, ic 0, ic 0, ic 0, ic 0, ic 0, ic 0, .slice none 0 0, .slice none 0 0, ic 0, ic 0, ic 0], [], rfl, ?_, ?_⟩)
    · rw [hs]; rfl
    · rw [hs]; exact zeroX_R _
  have hlt : i < css.length := by simpa using hc
  have hlx : i < x.circles.length := by omega
  obtain ⟨o, off, rfl, hr⟩ := hrow (by intro q; simp [q] at hlt)
  have hcell := SlC_at hr hlen hlt
  have hxi := hall.at_ hlt hlx
  obtain ⟨vm, vp, vb, vt, vo, vu, vq, vc, heq, ht, hm, hp, hb_, htu, hpo, hou, hq, ⟨cssx, ⟨ax, cc, rfl, hmaxx, hcapx, hrowx, hlenx⟩, hallx⟩⟩ := id hxi
  have hlc := hallx.len
  rw [heq] at hcell
  rw [List.drop_eq_getElem_cons hlx, List.flatMap_cons] at hs
  clear hc
  refine W_seq (W_blk ?_)
  refine W_seq (W_reg ?_)
  simp only [r21_3, r21_3a, r21_3b, r21_3c, sx, Nat.reduceBEq, Nat.reduceAdd, Nat.reduceLeDiff, reduceCtorEq]
  refine ⟨by omega, _, hcell.lrow, rfl, ?_⟩
  simp only [sx, Nat.reduceBEq, Nat.reduceAdd, Nat.reduceLeDiff, reduceCtorEq]
  intro b7
  refine ⟨⟨hm.one, hp.one, hb_.one, htu.one, hpo.one, hou.one, hq.one⟩, ?_⟩
  refine W_seq (W_reg ?_)
  simp only [r21_4, sx, Nat.reduceBEq, Nat.reduceAdd, Nat.reduceLeDiff, reduceCtorEq]
  refine W_blk (W_loop (fun m e bx own u' => ∃ j, j ≤ cssx.length ∧ m = cssx.length - j ∧ St [(1, ic key), (4, .pointer (some ⟨b4, 0, none⟩)), (11, .slice (some ⟨o, off, none⟩) css.length c), (12, ic css.length), (13, ic i), (18, .slice ax cssx.length cc), (19, ic cssx.length), (20, ic j)] [⟨4, b4, [.int .i64 0, .int .i64 0, .int .i64 0, .int .i64 0, .int .i64 0, .int .i64 0, .int .i64 0, .slice none 0 0, .slice none 0 0, .int .i64 0, .int .i64 0, .int .i64 0], 65⟩] (fun own u' => u = u' ∧ own = [] ∧ ((x.circles.flatMap fun c => c.claims).find? fun m => m.mark == key) = (x.circles[i].claims.drop j ++ (x.circles.drop (i + 1)).flatMap fun c => c.claims).find? fun m => m.mark == key) e bx own u') (m := cssx.length) ⟨0, by omega, by omega, ?_⟩ ?_)
  · exact .mk ⟨rfl, rfl, hs⟩
  clear hs
  rintro m e bx own u' ⟨j, hj, rfl, ⟨rfl, rfl, hs⟩⟩
  refine W_seq (W_reg ?_)
  simp only [r21_5, sx, Nat.reduceBEq, Nat.reduceAdd, Nat.reduceLeDiff, reduceCtorEq]
  refine W_seq (W_cnd rfl (fun hc => W_skip ?_) (fun hc => W_exit ?_))
  · have hltj : j < cssx.length := by simpa using hc
    have hlxj : j < x.circles[i].claims.length := by omega
    obtain ⟨o2, off2, rfl, hr2⟩ := hrowx (by intro q; simp [q] at hltj)
    have hcell2 := SlC_at hr2 hlenx hltj
    have hxj := hallx.at_ hltj hlxj
    obtain ⟨vj, wj, heq2, hj1, hj2⟩ := id hxj
    rw [heq2] at hcell2 hxj
    rw [find_cons_app hlxj] at hs
    refine W_seq (W_blk ?_)
    refine W_seq (W_reg ?_)
    simp only [r21_6, r21_6a, r21_6b, r21_6c, sx, Nat.reduceBEq, Nat.reduceAdd, Nat.reduceLeDiff, reduceCtorEq]
    refine ⟨by omega, _, hcell2.lrow, rfl, ?_⟩
    simp only [sx, Nat.reduceBEq, Nat.reduceAdd, Nat.reduceLeDiff, reduceCtorEq]
    intro b9
    refine ⟨⟨hj1.one, hj2.one⟩, ?_⟩
    refine W_seq (W_reg ?_)
    simp only [r21_7, sx, Nat.reduceBEq, Nat.reduceAdd, Nat.reduceLeDiff, reduceCtorEq]
    refine W_cnd rfl (fun hb => ?_) (fun hb => W_skip ?_)
    · refine W_seq (W_reg ?_)
      simp only [r21_8, r21_8a, sx, Nat.reduceBEq, Nat.reduceAdd, Nat.reduceLeDiff, reduceCtorEq]
      refine CallW.u (copiedClaim hxj) ?_
      rintro v own' u2 ⟨rfl, cs2, bs, rfl, rfl, hc2⟩ _
      obtain ⟨v2, w2, rfl, hv2, hw2⟩ := id hc2
      obtain ⟨sa, sn, sc, rfl⟩ := SlC.form hv2
      obtain ⟨ta, tn, tc, rfl⟩ := SlC.form hw2
      generalize x.circles[i].claims[j] = y at *
      simp only [r21_8b, r21_8c, sx, Nat.reduceBEq, Nat.reduceAdd, Nat.reduceLeDiff, reduceCtorEq]
      refine W_ret (RetQ.out rfl ⟨⟨rfl, rfl⟩, trivial, trivial⟩ ⟨rfl, [ic y.mark, ic y.circle, ic y.who, ic y.n, ic y.event, ic y.day, ic y.proofs, .slice sa sn sc, .slice ta tn tc, ic y.state, ic y.grant, ic y.from_], bs, by simp, ?_, ?_⟩)
      · rw [hs, hb]; rfl
      · rw [hs, hb]; exact hc2
    · refine W_reg ?_
      simp only [r21_9, sx, Nat.reduceBEq, Nat.reduceAdd, Nat.reduceLeDiff, reduceCtorEq]
      rw [wrapS hltj hmaxx]
      refine ⟨_, by omega, j + 1, by omega, rfl, .mk ⟨rfl, rfl, by rw [hs, hb]; rfl⟩⟩
  · have hge : ¬ j < cssx.length := by simpa using hc
    rw [List.drop_eq_nil_of_le (by omega), List.nil_append] at hs
    refine W_reg ?_
    simp only [r21_10, sx, Nat.reduceBEq, Nat.reduceAdd, Nat.reduceLeDiff, reduceCtorEq]
    rw [wrapS hlt hmax]
    refine ⟨_, by omega, i + 1, by omega, rfl, .mk ⟨rfl, rfl, hs⟩⟩
def zeroP : Proposal := ⟨0, 0, 0, [], 0⟩
theorem zeroP_R (M : MP) : proposalR M [ic 0, ic 0, ic 0, .slice none 0 0, ic 0] zeroP := ⟨_, rfl, nilSlC M 4⟩
theorem proposal_look {cs : List Value} {x : State} {u : Mem} (key : Int) (hx : stateR (MU u) cs x) : Fn Tryz.prog 20 [.agg cs.toArray, ic key] [] u (FindQ proposalR zeroP ((x.circles.flatMap fun c => c.op).find? fun m => m.mark == key) u) := by
  obtain ⟨vk, vc, vl, vv, rfl, hk, ⟨css, ⟨a, c, rfl, hmax, hcap, hrow, hlen⟩, hall⟩, hlo, hvo⟩ := hx
  have hl := hall.len
  refine fn20 fun cx hu => ?_
  refine W_seq (W_reg ?_)
  simp only [r20_0, r20_0a, r20_0b, sx, Nat.reduceBEq, Nat.reduceAdd, Nat.reduceLeDiff, reduceCtorEq]
  intro b2 b4
  refine W_seq ?_
  refine W_seq (W_reg ?_)
  simp only [r20_1, sx, Nat.reduceBEq, Nat.reduceAdd, Nat.reduceLeDiff, reduceCtorEq]
  refine W_blk (W_loop (fun m e bx own u' => ∃ i, i ≤ css.length ∧ m = css.length - i ∧ St [(1, ic key), (4, .pointer (some ⟨b4, 0, none⟩)), (11, .slice a css.length c), (12, ic css.length), (13, ic i)] [⟨4, b4, [.int .i64 0, .int .i64 0, .int .i64 0, .slice none 0 0, .int .i64 0], 63⟩] (fun own u' => u = u' ∧ own = [] ∧ ((x.circles.flatMap fun c => c.op).find? fun m => m.mark == key) = ((x.circles.drop i).flatMap fun c => c.op).find? fun m => m.mark == key) e bx own u') (m := css.length) ⟨0, by omega, by omega, ?_⟩ ?_)
  · exact .mk ⟨rfl, rfl, rfl⟩
  rintro m e bx own u' ⟨i, hi, rfl, ⟨rfl, rfl, hs⟩⟩
  refine W_seq (W_reg ?_)
  simp only [r20_2, sx, Nat.reduceBEq, Nat.reduceAdd, Nat.reduceLeDiff, reduceCtorEq]
  refine W_seq (W_cnd rfl (fun hc => W_skip ?_) (fun hc => W_exit ?_))
  rotate_left
  · have hge : ¬ i < css.length := by simpa using hc
    rw [List.drop_eq_nil_of_le (by omega)] at hs
    refine W_seq (W_reg ?_)
    simp only [r20_12, r20_12a, r20_12b, mksV, sx, Nat.reduceBEq, Nat.reduceAdd, Nat.reduceLeDiff, reduceCtorEq]
    refine W_ret (RetQ.out rfl ⟨⟨rfl, rfl⟩, trivial, trivial⟩ ⟨rfl, [ic 0, ic 0, ic 0, .slice none 0 0, ic 0], [], rfl, ?_, ?_⟩)
    · rw [hs]; rfl
    · rw [hs]; exact zeroP_R _
  have hlt : i < css.length := by simpa using hc
  have hlx : i < x.circles.length := by omega
  obtain ⟨o, off, rfl, hr⟩ := hrow (by intro q; simp [q] at hlt)
  have hcell := SlC_at hr hlen hlt
  have hxi := hall.at_ hlt hlx
  obtain ⟨vm, vp, vb, vt, vo, vu, vq, vc, heq, ht, hm, hp, hb_, htu, hpo, hou, ⟨cssx, ⟨ax, cc, rfl, hmaxx, hcapx, hrowx, hlenx⟩, hallx⟩, hcl⟩ := id hxi
  have hlc := hallx.len
  rw [heq] at hcell
  rw [List.drop_eq_getElem_cons hlx, List.flatMap_cons] at hs
  clear hc
  refine W_seq (W_blk ?_)
  refine W_seq (W_reg ?_)
  simp only [r20_3, r20_3a, r20_3b, r20_3c, sx, Nat.reduceBEq, Nat.reduceAdd, Nat.reduceLeDiff, reduceCtorEq]
  refine ⟨by omega, _, hcell.lrow, rfl, ?_⟩
  simp only [sx, Nat.reduceBEq, Nat.reduceAdd, Nat.reduceLeDiff, reduceCtorEq]
  intro b7
  refine ⟨⟨hm.one, hp.one, hb_.one, htu.one, hpo.one, hou.one, hcl.one⟩, ?_⟩
  refine W_seq (W_reg ?_)
  simp only [r20_4, sx, Nat.reduceBEq, Nat.reduceAdd, Nat.reduceLeDiff, reduceCtorEq]
  refine W_blk (W_loop (fun m e bx own u' => ∃ j, j ≤ cssx.length ∧ m = cssx.length - j ∧ St [(1, ic key), (4, .pointer (some ⟨b4, 0, none⟩)), (11, .slice (some ⟨o, off, none⟩) css.length c), (12, ic css.length), (13, ic i), (18, .slice ax cssx.length cc), (19, ic cssx.length), (20, ic j)] [⟨4, b4, [.int .i64 0, .int .i64 0, .int .i64 0, .slice none 0 0, .int .i64 0], 63⟩] (fun own u' => u = u' ∧ own = [] ∧ ((x.circles.flatMap fun c => c.op).find? fun m => m.mark == key) = (x.circles[i].op.drop j ++ (x.circles.drop (i + 1)).flatMap fun c => c.op).find? fun m => m.mark == key) e bx own u') (m := cssx.length) ⟨0, by omega, by omega, ?_⟩ ?_)
  · exact .mk ⟨rfl, rfl, hs⟩
  clear hs
  rintro m e bx own u' ⟨j, hj, rfl, ⟨rfl, rfl, hs⟩⟩
  refine W_seq (W_reg ?_)
  simp only [r20_5, sx, Nat.reduceBEq, Nat.reduceAdd, Nat.reduceLeDiff, reduceCtorEq]
  refine W_seq (W_cnd rfl (fun hc => W_skip ?_) (fun hc => W_exit ?_))
  · have hltj : j < cssx.length := by simpa using hc
    have hlxj : j < x.circles[i].op.length := by omega
    obtain ⟨o2, off2, rfl, hr2⟩ := hrowx (by intro q; simp [q] at hltj)
    have hcell2 := SlC_at hr2 hlenx hltj
    have hxj := hallx.at_ hltj hlxj
    obtain ⟨vj, heq2, hj1⟩ := id hxj
    rw [heq2] at hcell2 hxj
    rw [find_cons_app hlxj] at hs
    refine W_seq (W_blk ?_)
    refine W_seq (W_reg ?_)
    simp only [r20_6, r20_6a, r20_6b, r20_6c, sx, Nat.reduceBEq, Nat.reduceAdd, Nat.reduceLeDiff, reduceCtorEq]
    refine ⟨by omega, _, hcell2.lrow, rfl, ?_⟩
    simp only [sx, Nat.reduceBEq, Nat.reduceAdd, Nat.reduceLeDiff, reduceCtorEq]
    intro b9
    refine ⟨hj1.one, ?_⟩
    refine W_seq (W_reg ?_)
    simp only [r20_7, sx, Nat.reduceBEq, Nat.reduceAdd, Nat.reduceLeDiff, reduceCtorEq]
    refine W_cnd rfl (fun hb => ?_) (fun hb => W_skip ?_)
    · refine W_seq (W_reg ?_)
      simp only [r20_8, r20_8a, sx, Nat.reduceBEq, Nat.reduceAdd, Nat.reduceLeDiff, reduceCtorEq]
      refine CallW.u (clone63 hj1 (all1_map all1_voice _)) ?_
      rintro v own' u2 ⟨rfl, bs, rfl, hvs, _⟩ _
      obtain ⟨sa, sn, sc, rfl⟩ := hvs.form
      generalize x.circles[i].op[j] = y at *
      simp only [r20_8b, r20_8c, sx, Nat.reduceBEq, Nat.reduceAdd, Nat.reduceLeDiff, reduceCtorEq]
      refine W_seq (W_reg ?_)
      simp only [r20_9, r20_9a, r20_9b, sx, Nat.reduceBEq, Nat.reduceAdd, Nat.reduceLeDiff, reduceCtorEq]
      refine W_ret (RetQ.out rfl ⟨⟨rfl, rfl⟩, trivial, trivial⟩ ⟨rfl, [ic y.mark, ic y.day, ic y.kind, .slice sa sn sc, ic y.done], bs, by simp, ?_, ?_⟩)
      · rw [hs, hb]; rfl
      · rw [hs, hb]; exact ⟨_, rfl, hvs⟩
    · refine W_reg ?_
      simp only [r20_10, sx, Nat.reduceBEq, Nat.reduceAdd, Nat.reduceLeDiff, reduceCtorEq]
      rw [wrapS hltj hmaxx]
      refine ⟨_, by omega, j + 1, by omega, rfl, .mk ⟨rfl, rfl, by rw [hs, hb]; rfl⟩⟩
  · have hge : ¬ j < cssx.length := by simpa using hc
    rw [List.drop_eq_nil_of_le (by omega), List.nil_append] at hs
    refine W_reg ?_
    simp only [r20_11, sx, Nat.reduceBEq, Nat.reduceAdd, Nat.reduceLeDiff, reduceCtorEq]
    rw [wrapS hlt hmax]
    refine ⟨_, by omega, i + 1, by omega, rfl, .mk ⟨rfl, rfl, hs⟩⟩
end Go.Proofs.YtenmmfkgopffgaaGreatDoor

set_option maxRecDepth 4000
set_option linter.unnecessarySimpa false
namespace Go.Proofs.YtenmmfkgopffgaaGreatDoor
open Go

def FrzQ {α : Type} (R : MP → List Value → α → Prop) (x : α) (v : Value) (own' : List HP) (u' : Mem) : Prop := own' = [] ∧ ∃ cs, v = .agg cs.toArray ∧ R (MU u') cs x
def FrzF {α : Type} (R : MP → List Value → α → Prop) (z : α) (o : Option α) (v : Value) (own' : List HP) (u' : Mem) : Prop := own' = [] ∧ ∃ cs, v = .tuple #[.agg cs.toArray, .bool o.isSome] ∧ R (MU u') cs (o.getD z)
theorem copyF {α : Type} {R : MP → List Value → α → Prop} {x : α} {u : Mem} {f : FuncId} {args : List Value} (hm : ∀ {M N : MP} {cs : List Value} {x : α}, R M cs x → mpl M N → R N cs x) (h : Fn Tryz.prog f args [] u (CopyQ R x u)) : Fn Tryz.prog f args [] u (FrzQ R x) := by
  refine Fn.frz (R := fun v bs => ∃ cs, v = .agg cs.toArray ∧ R (MB bs) cs x) (h.mono ?_) ?_
  · rintro v own' u' ⟨rfl, cs, bs, rfl, rfl, hr⟩
    exact ⟨rfl, bs, rfl, cs, rfl, hr⟩
  · rintro v bs u' ⟨cs, rfl, hr⟩ _ hl
    exact ⟨rfl, cs, rfl, hm hr hl⟩
theorem findF {α : Type} {R : MP → List Value → α → Prop} {z : α} {o : Option α} {u : Mem} {f : FuncId} {args : List Value} (hm : ∀ {M N : MP} {cs : List Value} {x : α}, R M cs x → mpl M N → R N cs x) (h : Fn Tryz.prog f args [] u (FindQ R z o u)) : Fn Tryz.prog f args [] u (FrzF R z o) := by
  refine Fn.frz (R := fun v bs => ∃ cs, v = .tuple #[.agg cs.toArray, .bool o.isSome] ∧ R (MB bs) cs (o.getD z)) (h.mono ?_) ?_
  · rintro v own' u' ⟨rfl, cs, bs, rfl, rfl, hr⟩
    exact ⟨rfl, bs, rfl, cs, rfl, hr⟩
  · rintro v bs u' ⟨cs, rfl, hr⟩ _ hl
    exact ⟨rfl, cs, rfl, hm hr hl⟩
theorem slc_new {u : Mem} {blk k n : Nat} {cells : List Value} {T : TypeId} {fz : Nat × Nat} {css : List (List Value)} (h : u blk = some (.cells cells.toArray T fz)) (hc : cells = css.flatten) (hn : css.length = n) (hm : n ≤ maxN) (hk : ∀ cs ∈ css, cs.length = k) : SlC (MU u) k (.slice (some ⟨blk, 0, none⟩) n n) css := by
  subst hn
  refine ⟨some ⟨blk, 0, none⟩, css.length, rfl, hm, Nat.le_refl _, fun _ => ⟨blk, 0, rfl, _, _, _, h, ?_⟩, hk⟩
  rw [← hc]; simp
theorem slc_nil {M : MP} {k : Nat} : SlC M k (.slice none 0 0) [] := ⟨none, 0, rfl, by simp, by simp, by simp, by simp⟩
def sampleS : State := ⟨3, [1, 2], [], [⟨7, 0, 5, 2, 1, 9, -1⟩], [⟨8, 1⟩]⟩
theorem sample_c {u : Mem} : Fn Tryz.prog 18 [] [] u (FrzQ stateR sampleS) := by
  refine fn18 fun cx hu => ?_
  refine W_seq (W_reg ?_)
  simp only [r18_0, sx, Nat.reduceBEq, Nat.reduceAdd, Nat.reduceLeDiff, reduceCtorEq]
  intro b0
  refine W_seq (W_reg ?_)
  simp only [r18_1, r18_1a, r18_1b, mksV, sx, Nat.reduceBEq, Nat.reduceAdd, Nat.reduceLeDiff, reduceCtorEq]
  intro b1
  refine W_seq (W_reg ?_)
  simp only [r18_2, r18_2a, r18_2b, r18_2c, r18_2d, r18_2e, r18_2f, mksV, sx, Nat.reduceBEq, Nat.reduceAdd, Nat.reduceLeDiff, reduceCtorEq]
  refine .inl ⟨by simp [lenAll, vcells], fun blk1 u1 hle1 hu1 => ?_⟩
  try simp only [r18_2, r18_2a, r18_2b, r18_2c, r18_2d, r18_2e, r18_2f, mksV, sx, Nat.reduceBEq, Nat.reduceAdd, Nat.reduceLeDiff, reduceCtorEq]
  refine .inl ⟨by simp [lenAll, vcells], fun blk2 u2 hle2 hu2 => ?_⟩
  try simp only [r18_2, r18_2a, r18_2b, r18_2c, r18_2d, r18_2e, r18_2f, mksV, sx, Nat.reduceBEq, Nat.reduceAdd, Nat.reduceLeDiff, reduceCtorEq]
  refine .inl ⟨by simp [lenAll, vcells], fun blk3 u3 hle3 hu3 => ?_⟩
  try simp only [r18_2, r18_2a, r18_2b, r18_2c, r18_2d, r18_2e, r18_2f, mksV, sx, Nat.reduceBEq, Nat.reduceAdd, Nat.reduceLeDiff, reduceCtorEq]
  refine W_ret (RetQ.out rfl ⟨rfl, rfl⟩ ⟨rfl, _, rfl, _, _, _, _, rfl, ?_, ⟨[], slc_nil, trivial⟩, ?_, ?_⟩)
  · exact slc_new (hle3 _ _ (hle2 _ _ hu1)) rfl rfl (by simp [maxN]) (by simp [sampleS])
  · exact slc_new (hle3 _ _ hu2) rfl rfl (by simp [maxN]) (by simp [sampleS, lotC])
  · exact slc_new hu3 rfl rfl (by simp [maxN]) (by simp [sampleS, voidC])
end Go.Proofs.YtenmmfkgopffgaaGreatDoor
