/- Part 23 of the proofs that the program's StateBack and StateBalance return true (texts We Wf Wg Wh joined): what its functions compute. -/
import Derived.Test.YtenmmfkgopffgaaGreatDoorMav
set_option linter.unusedVariables false
set_option linter.unusedSimpArgs false
set_option maxRecDepth 4000
namespace Go.Proofs.YtenmmfkgopffgaaGreatDoor
open Go

theorem open_c {v : Value} {xs : List Proposal} {u : Mem} (hv : Sl 5 proposalR (MU u) v xs) : QFn Tryz.prog 89 [v] u (.bool (openB [] xs)) := by
  obtain ⟨css, ⟨a, c, rfl, hmax, hcap, hrow, hlen⟩, hall⟩ := hv
  have hl : css.length = xs.length := hall.len
  refine fn89 fun cx hu => ?_
  refine W_seq (W_reg ?_)
  simp only [r89_0, sx, Nat.reduceBEq, Nat.reduceAdd, Nat.reduceLeDiff, reduceCtorEq]
  refine W_seq (W_reg ?_)
  simp only [r89_1, r89_1a, sx, Nat.reduceBEq, Nat.reduceAdd, Nat.reduceLeDiff, reduceCtorEq]
  intro b
  refine W_seq ?_
  refine W_seq (W_reg ?_)
  simp only [r89_2, sx, Nat.reduceBEq, Nat.reduceAdd, Nat.reduceLeDiff, reduceCtorEq]
  refine (W_blk (W_loop (fun m e bx own u' => ∃ i, i ≤ xs.length ∧ m = xs.length - i ∧ St [(3, .map (some b)), (9, .slice a css.length c), (10, ic css.length), (11, ic i)] [] (fun own u' => ∃ S, own = [SMap b S] ∧ mle u u' ∧ openB [] xs = openB S (xs.drop i)) e bx own u') (m := xs.length) ⟨0, by omega, by omega, ?_⟩ ?_))
  · exact .mk ⟨[], rfl, mle_refl _, rfl⟩
  rintro m e bx own u' ⟨i, hi, rfl, ⟨S, rfl, hle, hs⟩⟩
  refine W_seq (W_reg ?_)
  simp only [r89_3, sx, Nat.reduceBEq, Nat.reduceAdd, Nat.reduceLeDiff, reduceCtorEq]
  refine W_seq (W_cnd rfl (fun hc => W_skip ?_) (fun hc => W_exit ?_))
  · have hlt : i < css.length := by simpa using hc
    have hlx : i < xs.length := by omega
    obtain ⟨o, off, rfl, hr⟩ := hrow (by intro q; simp [q] at hlt)
    have hcell := (SlC_at hr hlen hlt).mono (mpl_mu hle)
    obtain ⟨vj, hcs, hj⟩ := hall.at_ hlt hlx
    rw [hcs] at hcell
    refine W_seq (W_blk ?_)
    refine W_seq (W_reg ?_)
    simp only [r89_4, r89_4a, r89_4b, r89_4c, sx, Nat.reduceBEq, Nat.reduceAdd, Nat.reduceLeDiff, reduceCtorEq]
    refine ⟨by omega, _, hcell.lrow, rfl, ?_⟩
    simp only [sx, Nat.reduceBEq, Nat.reduceAdd, Nat.reduceLeDiff, reduceCtorEq]
    intro blk
    refine ⟨hj.one, ?_⟩
    obtain ⟨aj, cj, rfl, hmaxj, hcapj, hrowj, hlenj⟩ := hj
    simp only [List.length_map] at hmaxj hcapj
    have hex : openB S (xs.drop i) = (markB xs[i].mark && !(S.contains xs[i].mark) && (numB xs[i].day && decide (0 ≤ xs[i].kind) && decide (xs[i].kind < 21) && decide (0 ≤ xs[i].done) && decide (xs[i].done ≤ 2) && allV xs[i].voices) && openB (addS S xs[i].mark) (xs.drop (i + 1))) := by
      rw [List.drop_eq_getElem_cons hlx]; rfl
    refine W_seq ?_
    refine W_mid (fun e bx own u' => ∃ r, St [(3, .map (some b)), (5, .pointer (some ⟨blk, 0, none⟩)), (9, .slice (some ⟨o, off, none⟩) css.length c), (10, ic css.length), (11, ic i), (51, .bool r)] [⟨5, blk, [ic xs[i].mark, ic xs[i].day, ic xs[i].kind, .slice aj (xs[i].voices.map voiceC).length cj, ic xs[i].done], 63⟩] (fun own u' => ∃ S', own = [SMap b S'] ∧ mle u u' ∧ (r = true → openB S (xs.drop i) = false) ∧ (r = false → openB S (xs.drop i) = (allV xs[i].voices && openB S' (xs.drop (i + 1))))) e bx own u') ?_ ?_
    · rw [hex]
      refine W_reg ?_
      simp only [r89_5, r89_5a, sx, Nat.reduceBEq, Nat.reduceAdd, Nat.reduceLeDiff, reduceCtorEq]
      refine ⟨_, mark_q _ _, ?_⟩
      simp only [r89_5b, r89_5c, r89_5c_g, r89_5c_ga, sx, Nat.reduceBEq, Nat.reduceAdd, Nat.reduceLeDiff, reduceCtorEq]
      refine ⟨fun hh1 => ?_, fun hh1 => ?_⟩
      rotate_left
      · simp only [r89_5c_g, r89_5c_ga, r89_5c_gb, r89_5d, r89_5e, r89_5e_g, r89_5e_ga, r89_5e_gb, sx, Nat.reduceBEq, Nat.reduceAdd, Nat.reduceLeDiff, reduceCtorEq]
        simp only [r89_5f, r89_5g, r89_5g_g, sx, Nat.reduceBEq, Nat.reduceAdd, Nat.reduceLeDiff, reduceCtorEq]
        simp only [r89_5h, r89_5i, r89_5i_g, sx, Nat.reduceBEq, Nat.reduceAdd, Nat.reduceLeDiff, reduceCtorEq]
        simp only [r89_5j, r89_5k, r89_5k_g, sx, Nat.reduceBEq, Nat.reduceAdd, Nat.reduceLeDiff, reduceCtorEq]
        simp only [r89_5l, r89_5m, r89_5m_g, sx, Nat.reduceBEq, Nat.reduceAdd, Nat.reduceLeDiff, reduceCtorEq]
        simp only [r89_5n, sx, Nat.reduceBEq, Nat.reduceAdd, Nat.reduceLeDiff, reduceCtorEq]
        exact ⟨true, .mk ⟨_, rfl, hle, fun _ => by simp_all <;> intros <;> omega, fun h => by cases h⟩⟩
      refine CallW.own (rest := []) (first_c b S xs[i].mark _) (List.Perm.refl _) ?_
      rintro v own' u1 ⟨rfl, rfl, rfl⟩ _
      simp only [r89_5c_gb, r89_5d, r89_5e, r89_5e_g, r89_5e_ga, sx, Nat.reduceBEq, Nat.reduceAdd, Nat.reduceLeDiff, reduceCtorEq]
      refine ⟨fun hh2 => ?_, fun hh2 => ?_⟩
      rotate_left
      · simp only [r89_5e_g, r89_5e_ga, r89_5e_gb, r89_5f, r89_5g, r89_5g_g, sx, Nat.reduceBEq, Nat.reduceAdd, Nat.reduceLeDiff, reduceCtorEq]
        simp only [r89_5h, r89_5i, r89_5i_g, sx, Nat.reduceBEq, Nat.reduceAdd, Nat.reduceLeDiff, reduceCtorEq]
        simp only [r89_5j, r89_5k, r89_5k_g, sx, Nat.reduceBEq, Nat.reduceAdd, Nat.reduceLeDiff, reduceCtorEq]
        simp only [r89_5l, r89_5m, r89_5m_g, sx, Nat.reduceBEq, Nat.reduceAdd, Nat.reduceLeDiff, reduceCtorEq]
        simp only [r89_5n, sx, Nat.reduceBEq, Nat.reduceAdd, Nat.reduceLeDiff, reduceCtorEq]
        exact ⟨true, .mk ⟨_, rfl, hle, fun _ => by simp_all <;> intros <;> omega, fun h => by cases h⟩⟩
      refine ⟨_, number_q _ _, ?_⟩
      simp only [r89_5e_gb, r89_5f, r89_5g, r89_5g_g, sx, Nat.reduceBEq, Nat.reduceAdd, Nat.reduceLeDiff, reduceCtorEq]
      refine ⟨fun hh3 => ?_, fun hh3 => ?_⟩
      rotate_left
      · simp only [r89_5g_g, r89_5h, r89_5i, r89_5i_g, sx, Nat.reduceBEq, Nat.reduceAdd, Nat.reduceLeDiff, reduceCtorEq]
        simp only [r89_5j, r89_5k, r89_5k_g, sx, Nat.reduceBEq, Nat.reduceAdd, Nat.reduceLeDiff, reduceCtorEq]
        simp only [r89_5l, r89_5m, r89_5m_g, sx, Nat.reduceBEq, Nat.reduceAdd, Nat.reduceLeDiff, reduceCtorEq]
        simp only [r89_5n, sx, Nat.reduceBEq, Nat.reduceAdd, Nat.reduceLeDiff, reduceCtorEq]
        exact ⟨true, .mk ⟨_, rfl, hle, fun _ => by simp_all <;> intros <;> omega, fun h => by cases h⟩⟩
      simp only [r89_5h, r89_5i, r89_5i_g, sx, Nat.reduceBEq, Nat.reduceAdd, Nat.reduceLeDiff, reduceCtorEq]
      refine ⟨fun hh4 => ?_, fun hh4 => ?_⟩
      rotate_left
      · simp only [r89_5i_g, r89_5j, r89_5k, r89_5k_g, sx, Nat.reduceBEq, Nat.reduceAdd, Nat.reduceLeDiff, reduceCtorEq]
        simp only [r89_5l, r89_5m, r89_5m_g, sx, Nat.reduceBEq, Nat.reduceAdd, Nat.reduceLeDiff, reduceCtorEq]
        simp only [r89_5n, sx, Nat.reduceBEq, Nat.reduceAdd, Nat.reduceLeDiff, reduceCtorEq]
        exact ⟨true, .mk ⟨_, rfl, hle, fun _ => by simp_all <;> intros <;> omega, fun h => by cases h⟩⟩
      simp only [r89_5j, r89_5k, r89_5k_g, sx, Nat.reduceBEq, Nat.reduceAdd, Nat.reduceLeDiff, reduceCtorEq]
      refine ⟨fun hh5 => ?_, fun hh5 => ?_⟩
      rotate_left
      · simp only [r89_5k_g, r89_5l, r89_5m, r89_5m_g, sx, Nat.reduceBEq, Nat.reduceAdd, Nat.reduceLeDiff, reduceCtorEq]
        simp only [r89_5n, sx, Nat.reduceBEq, Nat.reduceAdd, Nat.reduceLeDiff, reduceCtorEq]
        exact ⟨true, .mk ⟨_, rfl, hle, fun _ => by simp_all <;> intros <;> omega, fun h => by cases h⟩⟩
      simp only [r89_5l, r89_5m, r89_5m_g, sx, Nat.reduceBEq, Nat.reduceAdd, Nat.reduceLeDiff, reduceCtorEq]
      refine ⟨fun hh6 => ?_, fun hh6 => ?_⟩
      rotate_left
      · simp only [r89_5m_g, r89_5n, sx, Nat.reduceBEq, Nat.reduceAdd, Nat.reduceLeDiff, reduceCtorEq]
        exact ⟨true, .mk ⟨_, rfl, hle, fun _ => by simp_all <;> intros <;> omega, fun h => by cases h⟩⟩
      simp only [r89_5n, sx, Nat.reduceBEq, Nat.reduceAdd, Nat.reduceLeDiff, reduceCtorEq]
      refine ⟨_, .mk ⟨_, rfl, hle, fun h5 => ?_, fun h5 => ?_⟩⟩
      · simp_all <;> intros <;> omega
      · simp_all <;> intros <;> omega
    · rintro e bx own u1 ⟨r, ⟨S', rfl, hle1, hr1, hr2⟩⟩
      refine W_cnd rfl (fun hb => ?_) (fun hb => W_skip ?_)
      · refine W_seq (W_reg ?_)
        simp only [r89_6, sx, Nat.reduceBEq, Nat.reduceAdd, Nat.reduceLeDiff, reduceCtorEq]
        refine W_ret (RetQ.outQ hu hle1 rfl trivial ⟨?_, rfl, rfl⟩)
        rw [hs, hr1 hb]
      · have hs := hs.trans (hr2 hb)
        refine W_seq (W_reg ?_)
        simp only [r89_7, sx, Nat.reduceBEq, Nat.reduceAdd, Nat.reduceLeDiff, reduceCtorEq]
        refine (W_blk (W_loop (fun m e bx own u' => ∃ k, k ≤ xs[i].voices.length ∧ m = xs[i].voices.length - k ∧ St [(3, .map (some b)), (9, .slice (some ⟨o, off, none⟩) css.length c), (10, ic css.length), (11, ic i), (53, .slice aj (xs[i].voices.map voiceC).length cj), (54, ic (xs[i].voices.map voiceC).length), (55, ic k)] [] (fun own u' => own = [SMap b S'] ∧ mle u u' ∧ allV xs[i].voices = allV (xs[i].voices.drop k)) e bx own u') (m := xs[i].voices.length) ⟨0, by omega, by omega, ?_⟩ ?_))
        · exact .mk ⟨rfl, hle1, rfl⟩
        rintro m e bx own u2 ⟨k, hk, rfl, ⟨rfl, hle2, hs2⟩⟩
        refine W_seq (W_reg ?_)
        simp only [r89_8, sx, Nat.reduceBEq, Nat.reduceAdd, Nat.reduceLeDiff, reduceCtorEq]
        refine W_seq (W_cnd rfl (fun hc => W_skip ?_) (fun hc => W_exit ?_))
        · have hkt : k < xs[i].voices.length := by simpa using hc
          obtain ⟨o2, off2, rfl, hr2⟩ := hrowj (map_ne hkt)
          have hcell2 := (SlC_at hr2 hlenj (by simpa using hkt))
          rw [List.getElem_map] at hcell2
          refine W_seq (W_blk ?_)
          refine W_seq (W_reg ?_)
          simp only [r89_9, r89_9a, r89_9b, r89_9c, voiceC, sx, Nat.reduceBEq, Nat.reduceAdd, Nat.reduceLeDiff, reduceCtorEq]
          refine ⟨by rw [List.length_map]; omega, voiceC xs[i].voices[k], (hcell2.mono (mpl_mu hle2)).lrow, rfl, ?_⟩
          simp only [voiceC, sx, Nat.reduceBEq, Nat.reduceAdd, Nat.reduceLeDiff, reduceCtorEq]
          intro blk2
          refine W_seq (W_reg ?_)
          simp only [r89_10, r89_10a, sx, Nat.reduceBEq, Nat.reduceAdd, Nat.reduceLeDiff, reduceCtorEq]
          refine ⟨_, mark_q _ _, ?_⟩
          simp only [r89_10b, r89_10c, sx, Nat.reduceBEq, Nat.reduceAdd, Nat.reduceLeDiff, reduceCtorEq]
          refine ⟨_, fun _ => key_q _ _, ?_⟩
          simp only [r89_10d, r89_10e, sx, Nat.reduceBEq, Nat.reduceAdd, Nat.reduceLeDiff, reduceCtorEq]
          refine ⟨_, fun _ => number_q _ _, ?_⟩
          simp only [r89_10f, sx, Nat.reduceBEq, Nat.reduceAdd, Nat.reduceLeDiff, reduceCtorEq]
          rw [List.drop_eq_getElem_cons hkt] at hs2
          simp only [allV, List.all_cons] at hs2
          refine W_cnd rfl (fun hb => ?_) (fun hb => W_skip ?_)
          · refine W_seq (W_reg ?_)
            simp only [r89_11, sx, Nat.reduceBEq, Nat.reduceAdd, Nat.reduceLeDiff, reduceCtorEq]
            refine W_ret (RetQ.outQ hu hle2 rfl trivial ⟨?_, rfl, rfl⟩)
            rw [hs, allV, hs2]
            have : voiceB xs[i].voices[k] = false := by
              revert hb; simp only [voiceB]
              cases markB xs[i].voices[k].mark <;> cases keyB xs[i].voices[k].who <;> cases numB xs[i].voices[k].day <;> simp
            rw [this]; rfl
          · refine W_reg ?_
            simp only [r89_12, sx, Nat.reduceBEq, Nat.reduceAdd, Nat.reduceLeDiff, reduceCtorEq]
            rw [wrapS hkt hmaxj]
            refine ⟨_, by omega, k + 1, by omega, rfl, .mk ⟨rfl, hle2, ?_⟩⟩
            have : voiceB xs[i].voices[k] = true := by
              revert hb; simp only [voiceB]
              cases markB xs[i].voices[k].mark <;> cases keyB xs[i].voices[k].who <;> cases numB xs[i].voices[k].day <;> simp
            rw [allV, hs2, this]; rfl
        · have hge : ¬ k < xs[i].voices.length := by simpa using hc
          rw [List.drop_eq_nil_of_le (by omega)] at hs2
          refine W_reg ?_
          simp only [r89_13, sx, Nat.reduceBEq, Nat.reduceAdd, Nat.reduceLeDiff, reduceCtorEq]
          rw [wrapS hlt hmax]
          refine ⟨_, by omega, i + 1, by omega, rfl, .mk ⟨S', rfl, hle2, ?_⟩⟩
          rw [hs, hs2]; simp [allV]
  · have hge : ¬ i < css.length := by simpa using hc
    rw [List.drop_eq_nil_of_le (by omega)] at hs
    refine W_seq (W_reg ?_)
    simp only [r89_14, sx, Nat.reduceBEq, Nat.reduceAdd, Nat.reduceLeDiff, reduceCtorEq]
    refine W_ret (RetQ.outQ hu hle rfl trivial ⟨by rw [hs]; rfl, rfl, rfl⟩)
end Go.Proofs.YtenmmfkgopffgaaGreatDoor

set_option maxRecDepth 4000
namespace Go.Proofs.YtenmmfkgopffgaaGreatDoor
open Go

theorem dec_not {p q : Prop} [Decidable p] [Decidable q] (h : p ↔ ¬ q) : decide p = !(decide q) := by
  by_cases hq : q
  · simp [h, hq]
  · simp [h, hq]
theorem circle_c {cs : List Value} {c : Circle} {u : Mem} (hv : circleR (MU u) cs c) : QFn Tryz.prog 43 [.agg cs.toArray] u (.bool (circleB c)) := by
  obtain ⟨vm, vp, vb, vt, vo, vu, vq, vc, rfl, ht, hm, hp, hb_, htu, hpo, hou, hq, hcl⟩ := hv
  refine fn43 fun cx hu => ?_
  refine W_seq (W_reg ?_)
  simp only [r43_0, r43_0a, sx, Nat.reduceBEq, Nat.reduceAdd, Nat.reduceLeDiff, reduceCtorEq]
  intro blk
  refine W_seq ?_
  refine W_seq (W_reg ?_)
  simp only [r43_1, r43_1a, sx, Nat.reduceBEq, Nat.reduceAdd, Nat.reduceLeDiff, reduceCtorEq]
  refine ⟨_, mark_q _ _, ?_⟩
  simp only [r43_1b, r43_1c, sx, Nat.reduceBEq, Nat.reduceAdd, Nat.reduceLeDiff, reduceCtorEq]
  refine ⟨_, fun _ => mark_q _ _, ?_⟩
  simp only [r43_1d, r43_1e, sx, Nat.reduceBEq, Nat.reduceAdd, Nat.reduceLeDiff, reduceCtorEq]
  refine ⟨_, fun _ => number_q _ _, ?_⟩
  simp only [r43_1f, r43_1g, sx, Nat.reduceBEq, Nat.reduceAdd, Nat.reduceLeDiff, reduceCtorEq]
  refine ⟨_, fun _ => number_q _ _, ?_⟩
  obtain ⟨cssm, ⟨am, cm, rfl, hmaxm, hcapm, hrowm, hlenm⟩, hallm⟩ := hm
  have hlm : cssm.length = c.members.length := hallm.len
  have hct := htu; have hcp := hpo; have hco := hou
  obtain ⟨at_, ct, rfl, hmaxt, _⟩ := hct
  obtain ⟨ap, cp, rfl, hmaxp, _⟩ := hcp
  obtain ⟨ao, co, rfl, hmaxo, _⟩ := hco
  simp only [r43_1h, sx, Nat.reduceBEq, Nat.reduceAdd, Nat.reduceLeDiff, reduceCtorEq]
  have h0 : ∀ r : Bool, r = (!(circle0 c)) → (r = true → circleB c = false) ∧ (r = false → circle0 c = true) := by
    intro r hr; subst hr
    cases h : circle0 c <;> simp [circleB, h]
  generalize hr : (bif _ then true else decide (_ > (60 : Int)) : Bool) = r
  have hr0 : r = (!(circle0 c)) := by
    subst hr
    simp only [circle0, Bool.cond_true_left, Bool.not_and, Bool.not_not, Bool.or_assoc]
    rw [dec_not (p := (c.text.size : Int) > 2000) (q := c.text.size ≤ 2000) (by omega), dec_not (p := c.fund < -4503599627370496) (q := -4503599627370496 ≤ c.fund) (by omega), dec_not (p := c.fund > 4503599627370496) (q := c.fund ≤ 4503599627370496) (by omega), dec_not (p := (cssm.length : Int) > 60) (q := c.members.length ≤ 60) (by omega)]
  clear hr
  obtain ⟨hr1, hr2⟩ := h0 r hr0
  refine W_cnd rfl (fun hb => ?_) (fun hb => W_skip ?_)
  · refine W_seq (W_reg ?_)
    simp only [r43_2, sx, Nat.reduceBEq, Nat.reduceAdd, Nat.reduceLeDiff, reduceCtorEq]
    refine W_ret (RetQ.outQ hu (mle_refl _) rfl trivial ⟨by rw [hr1 hb], rfl, rfl⟩)
  have hs0 : circleB c = (membersB [] c.members && midB c && paidB [] c.paid && bidsB [] c.bids && openB [] c.op && claimsB [] c.claims) := by
    simp only [circleB, hr2 hb, Bool.true_and]
  refine W_seq (W_reg ?_)
  simp only [r43_3, r43_3a, sx, Nat.reduceBEq, Nat.reduceAdd, Nat.reduceLeDiff, reduceCtorEq]
  intro b
  refine W_seq ?_
  refine W_seq (W_reg ?_)
  simp only [r43_4, sx, Nat.reduceBEq, Nat.reduceAdd, Nat.reduceLeDiff, reduceCtorEq]
  refine (W_blk (W_loop (fun m e bx own u' => ∃ i, i ≤ c.members.length ∧ m = c.members.length - i ∧ St [(1, .pointer (some ⟨blk, 0, none⟩)), (3, .map (some b)), (53, .slice am cssm.length cm), (54, ic cssm.length), (55, ic i)] [⟨1, blk, [ic c.id, ic c.found, .string c.text, ic c.version, ic c.law, .slice am cssm.length cm, vp, vb, .slice at_ (c.turns.map i1).length ct, .slice ap (c.pots.map i1).length cp, .slice ao (c.out.map i1).length co, vq, vc, ic c.fund, .bool c.ended], 50⟩] (fun own u' => ∃ S, own = [SMap b S] ∧ mle u u' ∧ membersB [] c.members = membersB S (c.members.drop i)) e bx own u') (m := c.members.length) ⟨0, by omega, by omega, ?_⟩ ?_))
  · exact .mk ⟨[], rfl, mle_refl _, rfl⟩
  rintro m e bx own u' ⟨i, hi, rfl, ⟨S, rfl, hle, hs⟩⟩
  refine W_seq (W_reg ?_)
  simp only [r43_5, sx, Nat.reduceBEq, Nat.reduceAdd, Nat.reduceLeDiff, reduceCtorEq]
  refine W_seq (W_cnd rfl (fun hc => W_skip ?_) (fun hc => W_exit ?_))
  · have hlt : i < cssm.length := by simpa using hc
    have hlx : i < c.members.length := by omega
    obtain ⟨o, off, rfl, hr⟩ := hrowm (by intro q; simp [q] at hlt)
    have hcell := (SlC_at hr hlenm hlt).mono (mpl_mu hle)
    obtain ⟨vj, hcs, hj⟩ := hallm.at_ hlt hlx
    rw [hcs] at hcell
    refine W_seq (W_blk ?_)
    refine W_seq (W_reg ?_)
    simp only [r43_6, r43_6a, r43_6b, r43_6c, sx, Nat.reduceBEq, Nat.reduceAdd, Nat.reduceLeDiff, reduceCtorEq]
    refine ⟨by omega, _, hcell.lrow, rfl, ?_⟩
    simp only [sx, Nat.reduceBEq, Nat.reduceAdd, Nat.reduceLeDiff, reduceCtorEq]
    intro blk2
    refine ⟨hj.one, ?_⟩
    refine W_mid (fun e bx own u' => ∃ r, St [(1, .pointer (some ⟨blk, 0, none⟩)), (3, .map (some b)), (53, .slice (some ⟨o, off, none⟩) cssm.length cm), (54, ic cssm.length), (55, ic i), (93, .bool r)] [⟨1, blk, [ic c.id, ic c.found, .string c.text, ic c.version, ic c.law, .slice (some ⟨o, off, none⟩) cssm.length cm, vp, vb, .slice at_ (c.turns.map i1).length ct, .slice ap (c.pots.map i1).length cp, .slice ao (c.out.map i1).length co, vq, vc, ic c.fund, .bool c.ended], 50⟩] (fun own u' => ∃ S', own = [SMap b S'] ∧ mle u u' ∧ (r = true → membersB S (c.members.drop i) = false) ∧ (r = false → membersB S (c.members.drop i) = membersB S' (c.members.drop (i + 1)))) e bx own u') ?_ ?_
    · rw [List.drop_eq_getElem_cons hlx]
      simp only [membersB, memberB]
      clear hs0 hr1 hr2 hr0 h0 hs
      refine W_reg ?_
      simp only [r43_7, r43_7a, sx, Nat.reduceBEq, Nat.reduceAdd, Nat.reduceLeDiff, reduceCtorEq]
      refine ⟨_, key_q _ _, ?_⟩
      simp only [r43_7b, r43_7c, r43_7c_g, r43_7c_ga, sx, Nat.reduceBEq, Nat.reduceAdd, Nat.reduceLeDiff, reduceCtorEq]
      refine ⟨fun hh1 => ?_, fun hh1 => ?_⟩
      rotate_left
      · simp only [r43_7c_g, r43_7c_ga, r43_7c_gb, r43_7d, r43_7e, r43_7e_g, r43_7e_ga, r43_7e_gb, sx, Nat.reduceBEq, Nat.reduceAdd, Nat.reduceLeDiff, reduceCtorEq]
        simp only [r43_7f, r43_7g, r43_7g_g, r43_7g_ga, r43_7g_gb, sx, Nat.reduceBEq, Nat.reduceAdd, Nat.reduceLeDiff, reduceCtorEq]
        simp only [r43_7h, r43_7i, r43_7i_g, r43_7i_ga, r43_7i_gb, sx, Nat.reduceBEq, Nat.reduceAdd, Nat.reduceLeDiff, reduceCtorEq]
        simp only [r43_7j, r43_7k, r43_7k_g, r43_7k_ga, r43_7k_gb, sx, Nat.reduceBEq, Nat.reduceAdd, Nat.reduceLeDiff, reduceCtorEq]
        simp only [r43_7l, sx, Nat.reduceBEq, Nat.reduceAdd, Nat.reduceLeDiff, reduceCtorEq]
        exact ⟨true, .mk ⟨_, rfl, hle, fun _ => by simp_all, fun h => by cases h⟩⟩
      refine CallW.own (rest := []) (first_c b S c.members[i].key _) (List.Perm.refl _) ?_
      rintro v own' u1 ⟨rfl, rfl, rfl⟩ _
      simp only [r43_7c_gb, r43_7d, r43_7e, r43_7e_g, r43_7e_ga, sx, Nat.reduceBEq, Nat.reduceAdd, Nat.reduceLeDiff, reduceCtorEq]
      refine ⟨fun hh2 => ?_, fun hh2 => ?_⟩
      rotate_left
      · simp only [r43_7e_g, r43_7e_ga, r43_7e_gb, r43_7f, r43_7g, r43_7g_g, r43_7g_ga, r43_7g_gb, sx, Nat.reduceBEq, Nat.reduceAdd, Nat.reduceLeDiff, reduceCtorEq]
        simp only [r43_7h, r43_7i, r43_7i_g, r43_7i_ga, r43_7i_gb, sx, Nat.reduceBEq, Nat.reduceAdd, Nat.reduceLeDiff, reduceCtorEq]
        simp only [r43_7j, r43_7k, r43_7k_g, r43_7k_ga, r43_7k_gb, sx, Nat.reduceBEq, Nat.reduceAdd, Nat.reduceLeDiff, reduceCtorEq]
        simp only [r43_7l, sx, Nat.reduceBEq, Nat.reduceAdd, Nat.reduceLeDiff, reduceCtorEq]
        exact ⟨true, .mk ⟨_, rfl, hle, fun _ => by simp_all, fun h => by cases h⟩⟩
      refine ⟨_, number_q _ _, ?_⟩
      simp only [r43_7e_gb, r43_7f, r43_7g, r43_7g_g, r43_7g_ga, sx, Nat.reduceBEq, Nat.reduceAdd, Nat.reduceLeDiff, reduceCtorEq]
      refine ⟨fun hh3 => ?_, fun hh3 => ?_⟩
      rotate_left
      · simp only [r43_7g_g, r43_7g_ga, r43_7g_gb, r43_7h, r43_7i, r43_7i_g, r43_7i_ga, r43_7i_gb, sx, Nat.reduceBEq, Nat.reduceAdd, Nat.reduceLeDiff, reduceCtorEq]
        simp only [r43_7j, r43_7k, r43_7k_g, r43_7k_ga, r43_7k_gb, sx, Nat.reduceBEq, Nat.reduceAdd, Nat.reduceLeDiff, reduceCtorEq]
        simp only [r43_7l, sx, Nat.reduceBEq, Nat.reduceAdd, Nat.reduceLeDiff, reduceCtorEq]
        exact ⟨true, .mk ⟨_, rfl, hle, fun _ => by simp_all, fun h => by cases h⟩⟩
      refine ⟨_, number_q _ _, ?_⟩
      simp only [r43_7g_gb, r43_7h, r43_7i, r43_7i_g, r43_7i_ga, sx, Nat.reduceBEq, Nat.reduceAdd, Nat.reduceLeDiff, reduceCtorEq]
      refine ⟨fun hh4 => ?_, fun hh4 => ?_⟩
      rotate_left
      · simp only [r43_7i_g, r43_7i_ga, r43_7i_gb, r43_7j, r43_7k, r43_7k_g, r43_7k_ga, r43_7k_gb, sx, Nat.reduceBEq, Nat.reduceAdd, Nat.reduceLeDiff, reduceCtorEq]
        simp only [r43_7l, sx, Nat.reduceBEq, Nat.reduceAdd, Nat.reduceLeDiff, reduceCtorEq]
        exact ⟨true, .mk ⟨_, rfl, hle, fun _ => by simp_all, fun h => by cases h⟩⟩
      refine ⟨_, number_q _ _, ?_⟩
      simp only [r43_7i_gb, r43_7j, r43_7k, r43_7k_g, r43_7k_ga, sx, Nat.reduceBEq, Nat.reduceAdd, Nat.reduceLeDiff, reduceCtorEq]
      refine ⟨fun hh5 => ?_, fun hh5 => ?_⟩
      rotate_left
      · simp only [r43_7k_g, r43_7k_ga, r43_7k_gb, r43_7l, sx, Nat.reduceBEq, Nat.reduceAdd, Nat.reduceLeDiff, reduceCtorEq]
        exact ⟨true, .mk ⟨_, rfl, hle, fun _ => by simp_all, fun h => by cases h⟩⟩
      refine CallW.q (every_k (hj.mono (mpl_mu hle))) ?_
      simp only [r43_7k_gb, r43_7l, sx, Nat.reduceBEq, Nat.reduceAdd, Nat.reduceLeDiff, reduceCtorEq]
      refine ⟨_, .mk ⟨_, rfl, hle, fun h5 => ?_, fun h5 => ?_⟩⟩
      · simp_all
      · simp_all
    · rintro e bx own u1 ⟨r, ⟨S', rfl, hle1, hr1, hr2⟩⟩
      refine W_cnd rfl (fun hb => ?_) (fun hb => W_skip ?_)
      · refine W_seq (W_reg ?_)
        simp only [r43_8, sx, Nat.reduceBEq, Nat.reduceAdd, Nat.reduceLeDiff, reduceCtorEq]
        refine W_ret (RetQ.outQ hu hle1 rfl trivial ⟨?_, rfl, rfl⟩)
        rw [hs0, hs, hr1 hb]; rfl
      · refine W_reg ?_
        simp only [r43_9, sx, Nat.reduceBEq, Nat.reduceAdd, Nat.reduceLeDiff, reduceCtorEq]
        rw [wrapS hlt hmaxm]
        exact ⟨_, by omega, i + 1, by omega, rfl, .mk ⟨S', rfl, hle1, by rw [hs, hr2 hb]⟩⟩
  have hge : ¬ i < cssm.length := by simpa using hc
  rw [List.drop_eq_nil_of_le (by omega)] at hs
  have hs1 : circleB c = (midB c && paidB [] c.paid && bidsB [] c.bids && openB [] c.op && claimsB [] c.claims) := by
    rw [hs0, hs]; simp [membersB, Bool.and_assoc]
  clear hs0 hr1 hr2 hr0 h0 hs
  refine W_seq (W_reg ?_)
  simp only [r43_10, sx, Nat.reduceBEq, Nat.reduceAdd, Nat.reduceLeDiff, reduceCtorEq]
  have hle' : mpl (MU u) (MU u') := hle
  refine W_seq (W_mid (fun e bx own u' => ∃ r, St [(1, .pointer (some ⟨blk, 0, none⟩)), (129, .bool r)] [⟨1, blk, [ic c.id, ic c.found, .string c.text, ic c.version, ic c.law, .slice am cssm.length cm, vp, vb, .slice at_ (c.turns.map i1).length ct, .slice ap (c.pots.map i1).length cp, .slice ao (c.out.map i1).length co, vq, vc, ic c.fund, .bool c.ended], 50⟩] (fun own u' => mle u u' ∧ r = (!(midB c))) e bx own u') ?_ ?_)
  · refine W_reg ?_
    simp only [r43_11, r43_11a, r43_11a_g, sx, Nat.reduceBEq, Nat.reduceAdd, Nat.reduceLeDiff, reduceCtorEq]
    refine ⟨fun hh1 => ?_, fun hh1 => ?_⟩
    rotate_left
    · simp only [r43_11a_g, r43_11b, r43_11c, r43_11c_g, r43_11c_ga, r43_11c_gb, sx, Nat.reduceBEq, Nat.reduceAdd, Nat.reduceLeDiff, reduceCtorEq]
      simp only [r43_11d, r43_11e, r43_11e_g, r43_11e_ga, r43_11e_gb, sx, Nat.reduceBEq, Nat.reduceAdd, Nat.reduceLeDiff, reduceCtorEq]
      simp only [r43_11f, r43_11g, r43_11g_g, r43_11g_ga, r43_11g_gb, sx, Nat.reduceBEq, Nat.reduceAdd, Nat.reduceLeDiff, reduceCtorEq]
      simp only [r43_11h, sx, Nat.reduceBEq, Nat.reduceAdd, Nat.reduceLeDiff, reduceCtorEq]
      exact ⟨true, .mk ⟨hle, by simp [midB] <;> simp_all <;> intros <;> omega⟩⟩
    simp only [r43_11b, r43_11c, r43_11c_g, r43_11c_ga, sx, Nat.reduceBEq, Nat.reduceAdd, Nat.reduceLeDiff, reduceCtorEq]
    refine ⟨fun hh2 => ?_, fun hh2 => ?_⟩
    rotate_left
    · simp only [r43_11c_g, r43_11c_ga, r43_11c_gb, r43_11d, r43_11e, r43_11e_g, r43_11e_ga, r43_11e_gb, sx, Nat.reduceBEq, Nat.reduceAdd, Nat.reduceLeDiff, reduceCtorEq]
      simp only [r43_11f, r43_11g, r43_11g_g, r43_11g_ga, r43_11g_gb, sx, Nat.reduceBEq, Nat.reduceAdd, Nat.reduceLeDiff, reduceCtorEq]
      simp only [r43_11h, sx, Nat.reduceBEq, Nat.reduceAdd, Nat.reduceLeDiff, reduceCtorEq]
      exact ⟨true, .mk ⟨hle, by simp [midB] <;> simp_all <;> intros <;> omega⟩⟩
    refine CallW.q (every_t (htu.mono hle')) ?_
    simp only [r43_11c_gb, r43_11d, r43_11e, r43_11e_g, r43_11e_ga, sx, Nat.reduceBEq, Nat.reduceAdd, Nat.reduceLeDiff, reduceCtorEq]
    refine ⟨fun hh3 => ?_, fun hh3 => ?_⟩
    rotate_left
    · simp only [r43_11e_g, r43_11e_ga, r43_11e_gb, r43_11f, r43_11g, r43_11g_g, r43_11g_ga, r43_11g_gb, sx, Nat.reduceBEq, Nat.reduceAdd, Nat.reduceLeDiff, reduceCtorEq]
      simp only [r43_11h, sx, Nat.reduceBEq, Nat.reduceAdd, Nat.reduceLeDiff, reduceCtorEq]
      exact ⟨true, .mk ⟨hle, by simp [midB] <;> simp_all <;> intros <;> omega⟩⟩
    refine CallW.q (every_n (hpo.mono hle')) ?_
    simp only [r43_11e_gb, r43_11f, r43_11g, r43_11g_g, r43_11g_ga, sx, Nat.reduceBEq, Nat.reduceAdd, Nat.reduceLeDiff, reduceCtorEq]
    refine ⟨fun hh4 => ?_, fun hh4 => ?_⟩
    rotate_left
    · simp only [r43_11g_g, r43_11g_ga, r43_11g_gb, r43_11h, sx, Nat.reduceBEq, Nat.reduceAdd, Nat.reduceLeDiff, reduceCtorEq]
      exact ⟨true, .mk ⟨hle, by simp [midB] <;> simp_all <;> intros <;> omega⟩⟩
    refine CallW.q (every_n (hou.mono hle')) ?_
    simp only [r43_11g_gb, r43_11h, sx, Nat.reduceBEq, Nat.reduceAdd, Nat.reduceLeDiff, reduceCtorEq]
    refine ⟨_, .mk ⟨hle, ?_⟩⟩
    have e1 : c.turns.length = c.pots.length := by simp at hh1 <;> omega
    have e2 : c.turns.length = c.out.length := by simp at hh2 <;> omega
    have e3 : allT c.turns = true := by simpa using hh3
    have e4 : allN c.pots = true := by simpa using hh4
    simp only [midB, e1, ← e2, e3, e4, beq_self_eq_true, Bool.true_and]
  · rintro e bx own u1 ⟨r, ⟨hle1, hr1⟩⟩
    refine W_cnd rfl (fun hb => ?_) (fun hb => W_skip ?_)
    · refine W_seq (W_reg ?_)
      simp only [r43_12, sx, Nat.reduceBEq, Nat.reduceAdd, Nat.reduceLeDiff, reduceCtorEq]
      refine W_ret (RetQ.outQ hu hle1 rfl trivial ⟨?_, rfl, rfl⟩)
      rw [hs1]
      have : midB c = false := by simpa [hb] using hr1
      simp [this]
    · have hm1 : midB c = true := by simpa [hb] using hr1
      rw [hm1, Bool.true_and] at hs1
      refine W_seq (W_reg ?_)
      simp only [r43_13, r43_13a, sx, Nat.reduceBEq, Nat.reduceAdd, Nat.reduceLeDiff, reduceCtorEq]
      refine ⟨_, paid_c (hp.mono (mpl_mu hle1)), ?_⟩
      simp only [r43_13b, r43_13c, sx, Nat.reduceBEq, Nat.reduceAdd, Nat.reduceLeDiff, reduceCtorEq]
      refine ⟨_, fun _ => bids_c (hb_.mono (mpl_mu hle1)), ?_⟩
      simp only [r43_13d, r43_13e, sx, Nat.reduceBEq, Nat.reduceAdd, Nat.reduceLeDiff, reduceCtorEq]
      refine ⟨_, fun _ => open_c (Sl.mono (R := proposalR) (fun _ _ _ _ => proposalR.mono) hq (mpl_mu hle1)), ?_⟩
      simp only [r43_13f, r43_13g, sx, Nat.reduceBEq, Nat.reduceAdd, Nat.reduceLeDiff, reduceCtorEq]
      refine ⟨_, fun _ => claims_c (Sl.mono (R := claimR) (fun _ _ _ _ => claimR.mono) hcl (mpl_mu hle1)), ?_⟩
      simp only [r43_13h, sx, Nat.reduceBEq, Nat.reduceAdd, Nat.reduceLeDiff, reduceCtorEq]
      refine W_ret (RetQ.outQ hu hle1 rfl trivial ⟨?_, rfl, rfl⟩)
      rw [hs1]
      cases paidB [] c.paid <;> cases bidsB [] c.bids <;> cases openB [] c.op <;> cases claimsB [] c.claims <;> rfl
end Go.Proofs.YtenmmfkgopffgaaGreatDoor

set_option maxRecDepth 4000
namespace Go.Proofs.YtenmmfkgopffgaaGreatDoor
open Go

def prevL (xs : List Lot) (i : Nat) : Option Lot := match i with
  | 0 => none
  | k + 1 => xs[k]?
theorem lots_c {v : Value} {xs : List Lot} {u : Mem} (hv : SlF 7 lotC (MU u) v xs) : QFn Tryz.prog 45 [v] u (.bool (lotsB none xs)) := by
  obtain ⟨a, c, rfl, hmax, hcap, hrow, hlen⟩ := hv
  simp only [List.length_map] at hmax hcap
  refine fn45 fun cx hu => ?_
  refine W_seq (W_reg ?_)
  simp only [r45_0, sx, Nat.reduceBEq, Nat.reduceAdd, Nat.reduceLeDiff, reduceCtorEq]
  refine W_seq ?_
  refine W_seq (W_reg ?_)
  simp only [r45_1, sx, Nat.reduceBEq, Nat.reduceAdd, Nat.reduceLeDiff, reduceCtorEq]
  refine (W_blk (W_loop (fun m e bx own u' => ∃ i, i ≤ xs.length ∧ m = xs.length - i ∧ St [(0, .slice a xs.length c), (8, .slice a xs.length c), (9, ic xs.length), (10, ic i)] [] (fun own u' => own = [] ∧ u' = u ∧ lotsB none xs = lotsB (prevL xs i) (xs.drop i)) e bx own u') (m := xs.length) ⟨0, by omega, by omega, ?_⟩ ?_))
  · rw [List.length_map]; exact .mk ⟨rfl, rfl, rfl⟩
  rintro m e bx own u' ⟨i, hi, rfl, ⟨rfl, rfl, hs⟩⟩
  refine W_seq (W_reg ?_)
  simp only [r45_2, sx, Nat.reduceBEq, Nat.reduceAdd, Nat.reduceLeDiff, reduceCtorEq]
  refine W_seq (W_cnd rfl (fun hc => W_skip ?_) (fun hc => W_exit ?_))
  · have hlt : i < xs.length := by simpa using hc
    obtain ⟨o, off, rfl, hr⟩ := hrow (map_ne hlt)
    have hcell := SlC_at hr hlen (by simpa using hlt)
    rw [List.getElem_map] at hcell
    have hp : ∃ p : Lot, (i ≠ 0 → prevL xs i = some p ∧ rowM (MU u') o (off + (i - 1) * 7) (lotC p)) := by
      cases i with
      | zero => exact ⟨xs[0], fun q => absurd rfl q⟩
      | succ k =>
        have hk : k < xs.length := by omega
        have h2 := SlC_at hr hlen (by simpa using hk)
        rw [List.getElem_map] at h2
        exact ⟨xs[k], fun _ => ⟨by simp [prevL, hk], h2⟩⟩
    obtain ⟨p, hp⟩ := hp
    rw [List.drop_eq_getElem_cons hlt] at hs
    have hnext : prevL xs (i + 1) = some xs[i] := by simp [prevL, hlt]
    have hs1 : lotsB none xs = (lotB xs[i] && (bif i == 0 then true else pairB p xs[i]) && lotsB (prevL xs (i + 1)) (xs.drop (i + 1))) := by
      rw [hs, hnext]
      cases i with
      | zero => simp [prevL, lotsB]
      | succ k => rw [(hp (by omega)).1]; simp [lotsB]
    have hw : -1 ≤ IntKind.i64.wrap ((i : Int) - 1) ∧ IntKind.i64.wrap ((i : Int) - 1) = (i : Int) - 1 := by
      unfold maxN at hmax
      have := wrapI (n := (i : Int) - 1) (by omega) (by omega)
      omega
    generalize hx : xs[i] = x at *
    refine W_seq (W_blk ?_)
    refine W_seq (W_reg ?_)
    simp only [r45_3, r45_3a, r45_3b, r45_3c, r45_3d, lotC, sx, Nat.reduceBEq, Nat.reduceAdd, Nat.reduceLeDiff, reduceCtorEq]
    refine ⟨by omega, lotC x, hcell.lrow, rfl, ?_⟩
    simp only [lotC, sx, Nat.reduceBEq, Nat.reduceAdd, Nat.reduceLeDiff, reduceCtorEq]
    intro blk4
    refine W_seq (W_reg ?_)
    simp only [r45_4, r45_4a, r45_4b, sx, Nat.reduceBEq, Nat.reduceAdd, Nat.reduceLeDiff, reduceCtorEq]
    intro blk5
    refine W_seq ?_
    refine W_seq (W_reg ?_)
    simp only [r45_5, r45_5a, sx, Nat.reduceBEq, Nat.reduceAdd, Nat.reduceLeDiff, reduceCtorEq]
    refine ⟨_, mark_q _ _, ?_⟩
    simp only [r45_5b, r45_5c, sx, Nat.reduceBEq, Nat.reduceAdd, Nat.reduceLeDiff, reduceCtorEq]
    refine ⟨_, fun _ => key_q _ _, ?_⟩
    simp only [r45_5d, r45_5e, sx, Nat.reduceBEq, Nat.reduceAdd, Nat.reduceLeDiff, reduceCtorEq]
    refine ⟨_, fun _ => key_q _ _, ?_⟩
    simp only [r45_5f, r45_5g, sx, Nat.reduceBEq, Nat.reduceAdd, Nat.reduceLeDiff, reduceCtorEq]
    refine ⟨_, fun _ => number_q _ _, ?_⟩
    simp only [r45_5h, r45_5i, sx, Nat.reduceBEq, Nat.reduceAdd, Nat.reduceLeDiff, reduceCtorEq]
    refine ⟨_, fun _ => mark_q _ _, ?_⟩
    simp only [r45_5j, sx, Nat.reduceBEq, Nat.reduceAdd, Nat.reduceLeDiff, reduceCtorEq]
    generalize hr : (bif _ then true else (bif _ then (!(markB x.spent)) else false) : Bool) = r
    have hr0 : r = (!(lotB x)) := by
      subst hr
      simp only [lotB, Bool.cond_true_left, Bool.cond_false_right, Bool.not_and, Bool.not_or, Bool.not_not, Bool.or_assoc, bne]
      rw [dec_not (p := x.from_ < 0) (q := 0 ≤ x.from_) (by omega), dec_not (p := x.from_ ≥ x.to_) (q := x.from_ < x.to_) (by omega), dec_not (p := x.to_ > 1048576) (q := x.to_ ≤ 1048576) (by omega)]
    clear hr
    refine W_cnd rfl (fun hb => ?_) (fun hb => W_skip ?_)
    · refine W_seq (W_reg ?_)
      simp only [r45_6, sx, Nat.reduceBEq, Nat.reduceAdd, Nat.reduceLeDiff, reduceCtorEq]
      refine W_ret (RetQ.out rfl trivial ⟨?_, rfl, rfl⟩)
      have : lotB x = false := by simpa [hb] using hr0
      rw [hs1, this]; rfl
    have hl1 : lotB x = true := by simpa [hb] using hr0
    rw [hl1, Bool.true_and] at hs1
    refine W_seq ?_
    refine W_seq (W_drw (drawOK mixedP) ?_)
    simp only [WSD, A.wpD, r45_7, r45_7a, r45_7b, sx, Nat.reduceBEq, Nat.reduceAdd, Nat.reduceLeDiff, reduceCtorEq]
    refine ⟨fun h => ?_, [ic p.mark], fun h => ?_, rfl, ?_⟩
    · have : ¬ ((i : Int) = 0) := by simpa using h
      omega
    · have h0 : i ≠ 0 := by simpa using h
      have hpr := (hp h0).2
      rw [hw.2]
      have e1 : ((i : Int) - 1).toNat = i - 1 := by omega
      rw [e1]
      exact (rowM.part (i := 0) (r := [ic p.mark]) hpr (by simp [lotC]) (by simp [lotC])).lrow
    simp only [sx, Nat.reduceBEq, Nat.reduceAdd, Nat.reduceLeDiff, reduceCtorEq]
    generalize hr : (bif ((i : Int) == 0) then true else decide (p.mark < x.mark) : Bool) = r2
    refine W_cnd rfl (fun hb => W_exit ?_) (fun hb => W_skip ?_)
    · refine W_reg ?_
      simp only [r45_15, sx, Nat.reduceBEq, Nat.reduceAdd, Nat.reduceLeDiff, reduceCtorEq]
      rw [wrapS hlt hmax]
      refine ⟨_, by omega, i + 1, by omega, rfl, .mk ⟨rfl, rfl, ?_⟩⟩
      rw [hs1]
      have : (bif i == 0 then true else pairB p x) = true := by
        subst hr
        by_cases hi0 : i = 0
        · simp [hi0]
        · have : ¬ ((i : Int) = 0) := by omega
          simp [hi0, this] at hb ⊢
          simp [pairB, hb]
      rw [this]; rfl
    have hi0 : i ≠ 0 := by
      intro q
      subst hr
      simp [q] at hb
    have hle1 : ¬ p.mark < x.mark := by
      subst hr
      simp at hb
      omega
    have hpr := (hp hi0).2
    have e0 : (i == 0) = false := by simpa using hi0
    rw [e0, cond_false] at hs1
    refine W_seq (W_reg ?_)
    simp only [r45_8, r45_8a, r45_8b, r45_8c, hw.2, sx, Nat.reduceBEq, Nat.reduceAdd, Nat.reduceLeDiff, reduceCtorEq]
    refine ⟨by omega, lotC p, ?_, rfl, ?_⟩
    · have e1 : ((i : Int) - 1).toNat = i - 1 := by omega
      rw [e1]
      exact hpr.lrow
    simp only [lotC, sx, Nat.reduceBEq, Nat.reduceAdd, Nat.reduceLeDiff, reduceCtorEq]
    intro blk6
    refine W_seq ?_
    refine W_seq (W_reg ?_)
    simp only [r45_9, sx, Nat.reduceBEq, Nat.reduceAdd, Nat.reduceLeDiff, reduceCtorEq]
    refine W_cnd rfl (fun hb => ?_) (fun hb => W_skip ?_)
    · refine W_seq (W_reg ?_)
      simp only [r45_10, sx, Nat.reduceBEq, Nat.reduceAdd, Nat.reduceLeDiff, reduceCtorEq]
      refine W_ret (RetQ.out rfl trivial ⟨?_, rfl, rfl⟩)
      have : pairB p x = false := by
        simp at hb
        simp [pairB]
        omega
      rw [hs1, this]; rfl
    have hb2 : p.mark = x.mark ∧ p.to_ ≤ x.from_ := by
      simp at hb
      omega
    refine W_seq (W_reg ?_)
    simp only [r45_11, sx, Nat.reduceBEq, Nat.reduceAdd, Nat.reduceLeDiff, reduceCtorEq]
    refine W_seq (W_reg ?_)
    simp only [r45_12, r45_12a, sx, Nat.reduceBEq, Nat.reduceAdd, Nat.reduceLeDiff, reduceCtorEq]
    refine W_seq (W_reg ?_)
    simp only [r45_13, kok, k1ok, ceq, c1eq, sx, Nat.reduceBEq, Nat.reduceAdd, Nat.reduceLeDiff, reduceCtorEq]
    refine W_cnd rfl (fun hb => ?_) (fun hb => W_skip ?_)
    · refine W_seq (W_reg ?_)
      simp only [r45_14, sx, Nat.reduceBEq, Nat.reduceAdd, Nat.reduceLeDiff, reduceCtorEq]
      refine W_ret (RetQ.out rfl trivial ⟨?_, rfl, rfl⟩)
      have : pairB p x = false := by
        simp at hb
        simp [pairB, hb, hb2.1]
      rw [hs1, this]; rfl
    · refine W_reg ?_
      simp only [r45_15, sx, Nat.reduceBEq, Nat.reduceAdd, Nat.reduceLeDiff, reduceCtorEq]
      rw [wrapS hlt hmax]
      refine ⟨_, by omega, i + 1, by omega, rfl, .mk ⟨rfl, rfl, ?_⟩⟩
      have : pairB p x = true := by
        simp at hb
        simp [pairB, hb2]
        omega
      rw [hs1, this]; rfl
  · have hge : ¬ i < xs.length := by simpa using hc
    rw [List.drop_eq_nil_of_le (by omega)] at hs
    refine W_seq (W_reg ?_)
    simp only [r45_16, sx, Nat.reduceBEq, Nat.reduceAdd, Nat.reduceLeDiff, reduceCtorEq]
    refine W_ret (RetQ.out rfl trivial ⟨by rw [hs]; cases prevL xs i <;> rfl, rfl, rfl⟩)
end Go.Proofs.YtenmmfkgopffgaaGreatDoor

set_option maxRecDepth 4000
namespace Go.Proofs.YtenmmfkgopffgaaGreatDoor
open Go

theorem right_c {cs : List Value} {s : State} {u : Mem} (hv : stateR (MU u) cs s) : QFn Tryz.prog 10 [.agg cs.toArray] u (.bool (rightB s)) := by
  obtain ⟨vk, vc, vl, vv, rfl, hk, hc, hl, hvd⟩ := hv
  have hko := hk.one; have hlo := hl.one
  obtain ⟨cssc, ⟨ac, cc, rfl, hmaxc, hcapc, hrowc, hlenc⟩, hallc⟩ := hc
  have hlc : cssc.length = s.circles.length := hallc.len
  obtain ⟨av, cv, rfl, hmaxv, hcapv, hrowv, hlenv⟩ := hvd
  simp only [List.length_map] at hmaxv hcapv
  refine fn10 fun cx hu => ?_
  refine W_seq (W_reg ?_)
  simp only [r10_0, r10_0a, sx, Nat.reduceBEq, Nat.reduceAdd, Nat.reduceLeDiff, reduceCtorEq]
  intro blk1
  refine W_seq (W_reg ?_)
  simp only [r10_1, r10_1a, r10_1b, r10_1c, r10_1d, sx, Nat.reduceBEq, Nat.reduceAdd, Nat.reduceLeDiff, reduceCtorEq]
  intro b9 b10 blk3
  have hB : rightB s = (numB s.day && keysB [] s.keys && decide (s.circles.length ≤ 40) && (circlesB [] s.circles && allW s.voids && lotsB none s.lots)) := by
    simp only [rightB, Bool.and_assoc]
  refine W_seq (W_mid (fun e bx own u' => ∃ r, St [(1, .pointer (some ⟨blk1, 0, none⟩)), (4, .map (some b10)), (27, .bool r)] [⟨3, blk3, [.map (some b9)], 97⟩, ⟨1, blk1, [ic s.day, vk, .slice ac cssc.length cc, vl, .slice av (s.voids.map voidC).length cv], 27⟩] (fun own u' => ∃ K, List.Perm own [SMap b9 K, SMap b10 []] ∧ u' = u ∧ (r = true → rightB s = false) ∧ (r = false → rightB s = (circlesB [] s.circles && allW s.voids && lotsB none s.lots))) e bx own u') ?_ ?_)
  · rw [hB]
    refine W_reg ?_
    simp only [r10_2, r10_2a, sx, Nat.reduceBEq, Nat.reduceAdd, Nat.reduceLeDiff, reduceCtorEq]
    refine ⟨_, number_q _ _, ?_⟩
    simp only [r10_2b, r10_2c, r10_2c_g, r10_2c_ga, sx, Nat.reduceBEq, Nat.reduceAdd, Nat.reduceLeDiff, reduceCtorEq]
    refine ⟨fun h1 => ?_, fun h1 => ?_⟩
    rotate_left
    · simp only [r10_2c_g, r10_2c_ga, r10_2c_gb, r10_2d, r10_2e, r10_2e_g, sx, Nat.reduceBEq, Nat.reduceAdd, Nat.reduceLeDiff, reduceCtorEq]
      simp only [r10_2f, sx, Nat.reduceBEq, Nat.reduceAdd, Nat.reduceLeDiff, reduceCtorEq]
      exact ⟨true, .mk ⟨[], List.Perm.swap _ _ _, rfl, fun _ => by simp_all, fun h => by cases h⟩⟩
    refine CallW.boxF (ownf := [SMap b9 []]) (rest := [SMap b10 []]) (Q := fun w own' u' => own' = [SMap b9 (allS keyS [] s.keys).2] ∧ w = .bool (keysB [] s.keys)) ?_ (fun u2 hh1 hh2 => ?_) en39 ?_
    · exact List.Perm.swap _ _ _
    · refine (everyF (σ := List Int) (s0 := []) (Ow := fun S => [SMap b9 S]) (step := keyS) (hk.mono (mpl_mu hh1)) ⟨40, #[], _, rfl, fun S x u3 h3 => ?_⟩).mono ?_
      · exact right1 blk3 b9 97 u3 (h3 _ _ hh2) S x
      · rintro v o u' ⟨rfl, rfl, rfl⟩
        exact ⟨rfl, fun _ _ => ⟨rfl, by rw [keysB_all]⟩⟩
    · rintro w own' ⟨rfl, rfl⟩
      simp only [r10_2c_gb, r10_2d, r10_2e, r10_2e_g, sx, Nat.reduceBEq, Nat.reduceAdd, Nat.reduceLeDiff, reduceCtorEq]
      refine ⟨fun h2 => ?_, fun h2 => ?_⟩
      rotate_left
      · simp only [r10_2f, sx, Nat.reduceBEq, Nat.reduceAdd, Nat.reduceLeDiff, reduceCtorEq]
        exact ⟨true, .mk ⟨_, List.Perm.refl _, rfl, fun _ => by simp_all, fun h => by cases h⟩⟩
      simp only [r10_2f, sx, Nat.reduceBEq, Nat.reduceAdd, Nat.reduceLeDiff, reduceCtorEq]
      refine ⟨_, .mk ⟨_, List.Perm.refl _, rfl, fun h5 => ?_, fun h5 => ?_⟩⟩
      · have : decide (s.circles.length ≤ 40) = false := by simp at h5; simp; omega
        rw [this]; simp
      · have : decide (s.circles.length ≤ 40) = true := by simp at h5; simp; omega
        rw [this]; simp_all
  · rintro e bx own u1 ⟨r, ⟨K, hperm, rfl, hr1, hr2⟩⟩
    refine W_gh (own' := [SMap b9 K, SMap b10 []]) (fun w i => i.perm (by unfold props; exact hperm.append_left _)) ?_
    refine W_cnd rfl (fun hb => ?_) (fun hb => W_skip ?_)
    · refine W_seq (W_reg ?_)
      simp only [r10_3, sx, Nat.reduceBEq, Nat.reduceAdd, Nat.reduceLeDiff, reduceCtorEq]
      refine W_ret (RetQ.outQ hu (mle_refl _) rfl trivial ⟨?_, rfl, rfl⟩)
      rw [hr1 hb]
    have hs0 := hr2 hb
    clear hr1 hr2 hB
    refine W_seq ?_
    refine W_seq (W_reg ?_)
    simp only [r10_4, sx, Nat.reduceBEq, Nat.reduceAdd, Nat.reduceLeDiff, reduceCtorEq]
    refine (W_blk (W_loop (fun m e bx own u' => ∃ i, i ≤ s.circles.length ∧ m = s.circles.length - i ∧ St [(1, .pointer (some ⟨blk1, 0, none⟩)), (4, .map (some b10)), (29, .slice ac cssc.length cc), (30, ic cssc.length), (31, ic i)] [⟨3, blk3, [.map (some b9)], 97⟩, ⟨1, blk1, [ic s.day, vk, .slice ac cssc.length cc, vl, .slice av (s.voids.map voidC).length cv], 27⟩] (fun own u' => ∃ S, own = [SMap b9 K, SMap b10 S] ∧ u' = u1 ∧ circlesB [] s.circles = circlesB S (s.circles.drop i)) e bx own u') (m := s.circles.length) ⟨0, by omega, by omega, ?_⟩ ?_))
    · exact .mk ⟨[], rfl, rfl, rfl⟩
    rintro m e bx own u' ⟨i, hi, rfl, ⟨S, rfl, rfl, hs⟩⟩
    refine W_seq (W_reg ?_)
    simp only [r10_5, sx, Nat.reduceBEq, Nat.reduceAdd, Nat.reduceLeDiff, reduceCtorEq]
    refine W_seq (W_cnd rfl (fun hc => W_skip ?_) (fun hc => W_exit ?_))
    · have hlt : i < cssc.length := by simpa using hc
      have hlx : i < s.circles.length := by omega
      obtain ⟨o, off, rfl, hr⟩ := hrowc (by intro q; simp [q] at hlt)
      have hcell := SlC_at hr hlenc hlt
      have hci := hallc.at_ hlt hlx
      obtain ⟨vm, vp, vb, vt, vo, vu, vq, vc, heq, ht, hm, hp, hb_, htu, hpo, hou, hq, hcl⟩ := id hci
      rw [heq] at hcell hci
      refine W_seq (W_blk ?_)
      refine W_seq (W_reg ?_)
      simp only [r10_6, r10_6a, r10_6b, r10_6c, sx, Nat.reduceBEq, Nat.reduceAdd, Nat.reduceLeDiff, reduceCtorEq]
      refine ⟨by omega, _, hcell.lrow, rfl, ?_⟩
      simp only [sx, Nat.reduceBEq, Nat.reduceAdd, Nat.reduceLeDiff, reduceCtorEq]
      intro blk6
      refine ⟨⟨hm.one, hp.one, hb_.one, htu.one, hpo.one, hou.one, hq.one, hcl.one⟩, ?_⟩
      refine W_seq (W_reg ?_)
      simp only [r10_7, r10_7a, sx, Nat.reduceBEq, Nat.reduceAdd, Nat.reduceLeDiff, reduceCtorEq]
      refine ⟨_, circle_c hci, ?_⟩
      have hs2 : circlesB [] s.circles = (circleB s.circles[i] && !(S.contains s.circles[i].id) && circlesB (addS S s.circles[i].id) (s.circles.drop (i + 1))) := by
        rw [hs, List.drop_eq_getElem_cons hlx]; rfl
      simp only [r10_7b, r10_7c, r10_7c_g, r10_7c_ga, sx, Nat.reduceBEq, Nat.reduceAdd, Nat.reduceLeDiff, reduceCtorEq]
      refine ⟨fun h1 => ?_, fun h1 => ?_⟩
      rotate_left
      · simp only [r10_7c_gb, r10_7d, sx, Nat.reduceBEq, Nat.reduceAdd, Nat.reduceLeDiff, reduceCtorEq]
        refine W_cnd rfl (fun hb => ?_) (fun hb => by cases hb)
        refine W_seq (W_reg ?_)
        simp only [r10_8, sx, Nat.reduceBEq, Nat.reduceAdd, Nat.reduceLeDiff, reduceCtorEq]
        refine W_ret (RetQ.outQ hu (mle_refl _) rfl trivial ⟨?_, rfl, rfl⟩)
        have : circleB s.circles[i] = false := by simpa using h1
        rw [hs0, hs2, this]; rfl
      refine CallW.own (rest := [SMap b9 K]) (first_c b10 S s.circles[i].id _) (List.Perm.swap _ _ _) ?_
      rintro v own' u2 ⟨rfl, rfl, rfl⟩ _
      simp only [r10_7c_gb, r10_7d, sx, Nat.reduceBEq, Nat.reduceAdd, Nat.reduceLeDiff, reduceCtorEq]
      have h1 : circleB s.circles[i] = true := by simpa using h1
      rw [h1, Bool.true_and] at hs2
      refine W_cnd rfl (fun hb => ?_) (fun hb => W_skip ?_)
      · refine W_seq (W_reg ?_)
        simp only [r10_8, sx, Nat.reduceBEq, Nat.reduceAdd, Nat.reduceLeDiff, reduceCtorEq]
        refine W_ret (RetQ.outQ hu (mle_refl _) rfl trivial ⟨?_, rfl, rfl⟩)
        have : (!(S.contains s.circles[i].id)) = false := by simpa using hb
        rw [hs0, hs2, this]; rfl
      · refine W_gh (own' := [SMap b9 K, SMap b10 (addS S s.circles[i].id)]) (fun w i => i.perm (by unfold props; exact (List.Perm.swap _ _ _).append_left _)) ?_
        refine W_reg ?_
        simp only [r10_9, sx, Nat.reduceBEq, Nat.reduceAdd, Nat.reduceLeDiff, reduceCtorEq]
        rw [wrapS hlt hmaxc]
        refine ⟨_, by omega, i + 1, by omega, rfl, .mk ⟨_, rfl, rfl, ?_⟩⟩
        have : (!(S.contains s.circles[i].id)) = true := by simpa using hb
        rw [hs2, this]; rfl
    have hge : ¬ i < cssc.length := by simpa using hc
    rw [List.drop_eq_nil_of_le (by omega)] at hs
    rw [hs] at hs0
    simp only [circlesB, Bool.true_and] at hs0
    refine W_seq ?_
    refine W_seq (W_reg ?_)
    simp only [r10_10, sx, Nat.reduceBEq, Nat.reduceAdd, Nat.reduceLeDiff, reduceCtorEq]
    refine (W_blk (W_loop (fun m e bx own u2 => ∃ i, i ≤ s.voids.length ∧ m = s.voids.length - i ∧ St [(1, .pointer (some ⟨blk1, 0, none⟩)), (47, .slice av (s.voids.map voidC).length cv), (48, ic (s.voids.map voidC).length), (49, ic i)] [⟨3, blk3, [.map (some b9)], 97⟩, ⟨1, blk1, [ic s.day, vk, .slice ac cssc.length cc, vl, .slice av (s.voids.map voidC).length cv], 27⟩] (fun own u2 => u2 = u' ∧ allW s.voids = allW (s.voids.drop i)) e bx own u2) (m := s.voids.length) ⟨0, by omega, by omega, ?_⟩ ?_))
    · exact .mk ⟨rfl, rfl⟩
    clear hs hc
    rintro m e bx own u2 ⟨j, hj, rfl, ⟨rfl, hs⟩⟩
    refine W_seq (W_reg ?_)
    simp only [r10_11, sx, Nat.reduceBEq, Nat.reduceAdd, Nat.reduceLeDiff, reduceCtorEq]
    refine W_seq (W_cnd rfl (fun hc => W_skip ?_) (fun hc => W_exit ?_))
    · have hlt : j < s.voids.length := by simpa using hc
      obtain ⟨o, off, rfl, hr⟩ := hrowv (map_ne hlt)
      have hcell := SlC_at hr hlenv (by simpa using hlt)
      rw [List.getElem_map] at hcell
      refine W_seq (W_blk ?_)
      refine W_seq (W_reg ?_)
      simp only [r10_12, r10_12a, r10_12b, r10_12c, voidC, sx, Nat.reduceBEq, Nat.reduceAdd, Nat.reduceLeDiff, reduceCtorEq]
      refine ⟨by rw [List.length_map]; omega, voidC s.voids[j], hcell.lrow, rfl, ?_⟩
      simp only [voidC, sx, Nat.reduceBEq, Nat.reduceAdd, Nat.reduceLeDiff, reduceCtorEq]
      intro blk8
      refine W_seq (W_reg ?_)
      simp only [r10_13, r10_13a, sx, Nat.reduceBEq, Nat.reduceAdd, Nat.reduceLeDiff, reduceCtorEq]
      refine ⟨_, mark_q _ _, ?_⟩
      simp only [r10_13b, sx, Nat.reduceBEq, Nat.reduceAdd, Nat.reduceLeDiff, reduceCtorEq]
      have hs2 : allW s.voids = (voidB s.voids[j] && allW (s.voids.drop (j + 1))) := by
        rw [hs, List.drop_eq_getElem_cons hlt]; rfl
      generalize hr : (bif _ then true else decide (_ > (32 : Int)) : Bool) = r
      have hr0 : r = !(voidB s.voids[j]) := by
        subst hr
        simp only [voidB, Bool.cond_true_left, Bool.not_and, Bool.not_or, Bool.not_not, Bool.or_assoc]
        rw [dec_not (p := s.voids[j].err ≤ 0) (q := 0 < s.voids[j].err) (by omega), dec_not (p := s.voids[j].err > 32) (q := s.voids[j].err ≤ 32) (by omega)]
      clear hr
      refine W_cnd rfl (fun hb => ?_) (fun hb => W_skip ?_)
      · refine W_seq (W_reg ?_)
        simp only [r10_14, sx, Nat.reduceBEq, Nat.reduceAdd, Nat.reduceLeDiff, reduceCtorEq]
        refine W_ret (RetQ.outQ hu (mle_refl _) rfl trivial ⟨?_, rfl, rfl⟩)
        have : voidB s.voids[j] = false := by simpa [hb] using hr0
        rw [hs0, hs2, this]; simp
      · refine W_reg ?_
        simp only [r10_15, sx, Nat.reduceBEq, Nat.reduceAdd, Nat.reduceLeDiff, reduceCtorEq]
        have h2 : ((s.voids.map voidC).length : Int) = s.voids.length := by simp
        rw [wrapS hlt hmaxv]
        refine ⟨_, by omega, j + 1, by omega, rfl, .mk ⟨rfl, ?_⟩⟩
        have : voidB s.voids[j] = true := by simpa [hb] using hr0
        rw [hs2, this]; rfl
    · have hge : ¬ j < s.voids.length := by simpa using hc
      rw [List.drop_eq_nil_of_le (by omega)] at hs
      refine W_seq (W_reg ?_)
      simp only [r10_16, r10_16a, sx, Nat.reduceBEq, Nat.reduceAdd, Nat.reduceLeDiff, reduceCtorEq]
      refine ⟨_, lots_c hl, ?_⟩
      simp only [r10_16b, sx, Nat.reduceBEq, Nat.reduceAdd, Nat.reduceLeDiff, reduceCtorEq]
      refine W_ret (RetQ.outQ hu (mle_refl _) rfl trivial ⟨?_, rfl, rfl⟩)
      rw [hs0, hs]; rfl
end Go.Proofs.YtenmmfkgopffgaaGreatDoor
