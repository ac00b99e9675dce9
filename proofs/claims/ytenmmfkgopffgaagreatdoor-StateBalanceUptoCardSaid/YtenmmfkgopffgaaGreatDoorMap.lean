/- Part 16 of the proofs that the program's StateBack and StateBalance return true (texts Ws Wt joined): what its functions compute. -/
import Derived.Test.YtenmmfkgopffgaaGreatDoorMao
set_option linter.unusedVariables false
set_option linter.unusedSimpArgs false
set_option maxRecDepth 4000
namespace Go.Proofs.YtenmmfkgopffgaaGreatDoor
open Go

theorem lk_pre {e r : Env} {t : Nat} {v : Value} (h : lk e t = some v) : lk (e ++ r) t = some v := by rw [lk_app, h]
theorem W_perm {P : Program} {D : Nat → Array Oper → List Nat → List I0 → List Nat → Bool} {n : Nat} {cx : Ctx} {Q : PQ} {e : Env} {bx : List Box} {own own' : List HP} {u : Mem} {s : SC} (p : List.Perm own own') (h : W P D n cx s Q e bx own' u) : W P D n cx s Q e bx own u :=
  W_gh (fun w i => i.perm (by unfold props; exact p.append_left _)) h
theorem brow_at {bx : List Box} {nm g : Nat} {T : TypeId} {css : List (List Value)} {tail : List Value} {k i : Nat} (hm : (⟨nm, g, css.flatten ++ tail, T⟩ : Box) ∈ bx) (hk : ∀ cs ∈ css, cs.length = k) (hi : i < css.length) {u : Mem} : lrow bx u g (i * k) css[i] := by
  refine .inr ⟨_, hm, rfl, ?_⟩
  obtain ⟨h1, h2⟩ := flat_at hk hi
  have hc : css[i].length = k := hk _ (List.getElem_mem hi)
  rw [List.drop_append_of_le_length (by omega), List.take_append_of_le_length (by rw [List.length_drop]; omega), hc]
  exact h1
theorem copied_c {cs : List Value} {x : Circle} {u : Mem} (hx : circleR (MU u) cs x) : Fn Tryz.prog 57 [.agg cs.toArray] [] u (CopyQ circleR x u) := by
  obtain ⟨vm, vp, vb, vt, vo, vu, vq, vc, rfl, ht, ⟨cssm, hsm, hallm⟩, hp, hb_, htu, hpo, hou, ⟨cssq, hsq, hallq⟩, ⟨cssc, hsc, hallc⟩⟩ := hx
  have hlm := hallm.len
  have hlq := hallq.len
  have hlc := hallc.len
  refine fn57 fun cx hu => ?_
  refine W_seq (W_reg ?_)
  simp only [r57_0, r57_0a, sx, Nat.reduceBEq, Nat.reduceAdd, Nat.reduceLeDiff, reduceCtorEq]
  intro b1 b2
  refine W_seq (W_drw (drawOK mixedP) ?_)
  simp only [WSD, A.wpD, r57_1, r57_1a, sx, Nat.reduceBEq, Nat.reduceAdd, Nat.reduceLeDiff, reduceCtorEq]
  refine CallWD.u (clone103 hsm (all1_rel all1_member hallm)) ?_
  rintro vm2 own' u' ⟨rfl, bm, rfl, hsm2, Tm, hrm⟩ _
  obtain ⟨sma, smn, smc, rfl⟩ := hsm2.form
  simp only [r57_1b, r57_1c, WSD, A.wpD, sx, Nat.reduceBEq, Nat.reduceAdd, Nat.reduceLeDiff, reduceCtorEq]
  refine CallWD.u (clone104 hsq (all1_rel all1_proposal hallq)) ?_
  rintro vq2 own' u' ⟨rfl, bq, rfl, hsq2, Tq, hrq⟩ _
  obtain ⟨sqa, sqn, sqc, rfl⟩ := hsq2.form
  simp only [r57_1d, WSD, A.wpD, sx, Nat.reduceBEq, Nat.reduceAdd, Nat.reduceLeDiff, reduceCtorEq]
  refine CallWD.u (clone105 hsc (all1_rel all1_claim hallc)) ?_
  rintro vc2 own' u' ⟨rfl, bc, rfl, hsc2, Tc, hrc⟩ _
  obtain ⟨sca, scn, scc, rfl⟩ := hsc2.form
  simp only [r57_1e, r57_1f, r57_1g, r57_1h, r57_1i, WSD, A.wpD, sx, Nat.reduceBEq, Nat.reduceAdd, Nat.reduceLeDiff, reduceCtorEq]
  refine W_seq (W_drw (drawOK mixedP) ?_)
  simp only [WSD, A.wpD, r57_2, r57_2a, sx, Nat.reduceBEq, Nat.reduceAdd, Nat.reduceLeDiff, reduceCtorEq]
  refine CallWD.u (clone106 hp (all1_map all1_paid _)) ?_
  rintro vp2 own' u' ⟨rfl, bp, rfl, hp2, _⟩ _
  obtain ⟨spa, spn, spc, rfl⟩ := hp2.form
  simp only [r57_2b, r57_2c, WSD, A.wpD, sx, Nat.reduceBEq, Nat.reduceAdd, Nat.reduceLeDiff, reduceCtorEq]
  refine CallWD.u (clone107 hb_ (all1_map all1_bid _)) ?_
  rintro vb2 own' u' ⟨rfl, bb, rfl, hb2, _⟩ _
  obtain ⟨sba, sbn, sbc, rfl⟩ := hb2.form
  simp only [r57_2d, r57_2e, r57_2f, WSD, A.wpD, sx, Nat.reduceBEq, Nat.reduceAdd, Nat.reduceLeDiff, reduceCtorEq]
  refine W_seq (W_drw (drawOK mixedP) ?_)
  simp only [WSD, A.wpD, r57_3, r57_3a, sx, Nat.reduceBEq, Nat.reduceAdd, Nat.reduceLeDiff, reduceCtorEq]
  refine CallWD.u (clone53 htu (all1_map all1_i1 _)) ?_
  rintro vt2 own' u' ⟨rfl, bt, rfl, ht2, _⟩ _
  obtain ⟨sta, stn, stc, rfl⟩ := ht2.form
  simp only [r57_3b, r57_3c, WSD, A.wpD, sx, Nat.reduceBEq, Nat.reduceAdd, Nat.reduceLeDiff, reduceCtorEq]
  refine CallWD.u (clone53 hpo (all1_map all1_i1 _)) ?_
  rintro vo2 own' u' ⟨rfl, bo, rfl, ho2, _⟩ _
  obtain ⟨soa, son, soc, rfl⟩ := ho2.form
  simp only [r57_3d, WSD, A.wpD, sx, Nat.reduceBEq, Nat.reduceAdd, Nat.reduceLeDiff, reduceCtorEq]
  refine CallWD.u (clone53 hou (all1_map all1_i1 _)) ?_
  rintro vu2 own' u' ⟨rfl, bu, rfl, hu2, _⟩ _
  obtain ⟨sua, sun, suc, rfl⟩ := hu2.form
  simp only [r57_3e, r57_3f, r57_3g, r57_3h, r57_3i, WSD, A.wpD, sx, Nat.reduceBEq, Nat.reduceAdd, Nat.reduceLeDiff, reduceCtorEq]
  -- the rest of what is owned
  refine W_perm (own' := ownB bm ++ (ownB bq ++ (ownB bc ++ ownB (bp ++ bb ++ bt ++ bo ++ bu)))) ?_ ?_
  · classical
    refine List.perm_iff_count.2 fun x => ?_
    simp only [ownB_app, List.count_append]
    omega
  obtain ⟨br, hbr⟩ : ∃ br, br = bp ++ bb ++ bt ++ bo ++ bu := ⟨_, rfl⟩
  rw [← hbr]
  refine W_mid (fun e bx own u2 => ∃ bm', Sl 5 memberR (MB bm') (.slice sma smn smc) x.members ∧ St [(1, .pointer (some ⟨b1, 0, none⟩)), (2, .pointer (some ⟨b2, 0, none⟩))] [⟨2, b2, [.int .i64 0, .int .i64 0, .string ⟨#[]⟩, .int .i64 0, .int .i64 0, .slice none 0 0, .slice none 0 0, .slice none 0 0, .slice none 0 0, .slice none 0 0, .slice none 0 0, .slice none 0 0, .slice none 0 0, .int .i64 0, .bool false], 50⟩, ⟨1, b1, [ic x.id, ic x.found, .string x.text, ic x.version, ic x.law, .slice sma smn smc, .slice spa spn spc, .slice sba sbn sbc, .slice sta stn stc, .slice soa son soc, .slice sua sun suc, .slice sqa sqn sqc, .slice sca scn scc, ic x.fund, .bool x.ended], 50⟩] (fun own u2 => u' = u2 ∧ own = ownB bm' ++ (ownB bq ++ (ownB bc ++ ownB br))) e bx own u2) ?_ ?_
  · by_cases h0 : cssm = []
    · subst h0
      have hx0 : x.members = [] := List.eq_nil_of_length_eq_zero (by simpa using hlm.symm)
      obtain ⟨_, _, hq1, _⟩ := id hsm2
      injection hq1 with q1 q2 q3
      refine W_seq (W_reg ?_)
      simp only [r57_4, sx, Nat.reduceBEq, Nat.reduceAdd, Nat.reduceLeDiff, reduceCtorEq]
      refine W_blk (W_loop (fun m e bx own u2 => m = 0 ∧ St [(1, .pointer (some ⟨b1, 0, none⟩)), (2, .pointer (some ⟨b2, 0, none⟩)), (40, ic 0), (41, ic 0)] [⟨2, b2, [.int .i64 0, .int .i64 0, .string ⟨#[]⟩, .int .i64 0, .int .i64 0, .slice none 0 0, .slice none 0 0, .slice none 0 0, .slice none 0 0, .slice none 0 0, .slice none 0 0, .slice none 0 0, .slice none 0 0, .int .i64 0, .bool false], 50⟩, ⟨1, b1, [ic x.id, ic x.found, .string x.text, ic x.version, ic x.law, .slice sma smn smc, .slice spa spn spc, .slice sba sbn sbc, .slice sta stn stc, .slice soa son soc, .slice sua sun suc, .slice sqa sqn sqc, .slice sca scn scc, ic x.fund, .bool x.ended], 50⟩] (fun own u2 => u' = u2 ∧ own = ownB bm ++ (ownB bq ++ (ownB bc ++ ownB br))) e bx own u2) (m := 0) ⟨rfl, ?_⟩ ?_)
      · subst q2; exact .mk ⟨rfl, rfl⟩
      · rintro m e bx own u2 ⟨rfl, ⟨rfl, rfl⟩⟩
        refine W_seq (W_reg ?_)
        simp only [r57_5, sx, Nat.reduceBEq, Nat.reduceAdd, Nat.reduceLeDiff, reduceCtorEq]
        refine W_seq (W_cnd rfl (fun hc => by simp at hc) (fun hc => ?_))
        refine W_env (e' := [(1, .pointer (some ⟨b1, 0, none⟩)), (2, .pointer (some ⟨b2, 0, none⟩))]) (fun t v h => lk_pre h) (W_exit ?_)
        simp only [sx, Nat.reduceBEq, Nat.reduceAdd, Nat.reduceLeDiff, reduceCtorEq]
        exact ⟨bm, ⟨[], hsm2, by rw [hx0]; trivial⟩, .mk ⟨rfl, rfl⟩⟩
    · obtain ⟨hl, ⟨_, hn0, _⟩ | ⟨g, cap, cur, hsl, rfl, hcap, hcm, hcs, htk⟩⟩ := hrm
      · exact absurd (List.eq_nil_of_length_eq_zero hn0) h0
      injection hsl with q1 q2 q3
      subst q1; subst q2; subst q3
      have hmaxm : cssm.length ≤ maxN := by obtain ⟨_, _, _, h, _⟩ := id hsm2; exact h
      have hlenm : ∀ cs ∈ cssm, cs.length = 5 := by obtain ⟨_, _, _, _, _, _, h⟩ := id hsm2; exact h
      obtain ⟨tail, htail⟩ : ∃ tail, cur.toList = cssm.flatten ++ tail := ⟨cur.toList.drop (cssm.length * 5), by rw [← htk, List.take_append_drop]⟩
      refine W_gh (bx' := ⟨900, g, cssm.flatten ++ tail, Tm⟩ :: [⟨2, b2, [.int .i64 0, .int .i64 0, .string ⟨#[]⟩, .int .i64 0, .int .i64 0, .slice none 0 0, .slice none 0 0, .slice none 0 0, .slice none 0 0, .slice none 0 0, .slice none 0 0, .slice none 0 0, .slice none 0 0, .int .i64 0, .bool false], 50⟩, ⟨1, b1, [ic x.id, ic x.found, .string x.text, ic x.version, ic x.law,   .slice (some ⟨g, 0, none⟩) cssm.length smc, .slice spa spn spc, .slice sba sbn sbc, .slice sta stn stc, .slice soa son soc, .slice sua sun suc, .slice sqa sqn sqc, .slice sca scn scc, ic x.fund, .bool x.ended], 50⟩]) (own' := ownB bq ++ (ownB bc ++ ownB br)) (fun w i => i.perm ?_) ?_
      · unfold props
        rw [← htail]
        have : (Box.hp ⟨900, g, cur.toList, Tm⟩ : HP) = Blk g (.cells cur Tm (0, 0)) := by simp [Box.hp]
        show List.Perm (List.map Box.hp [⟨2, b2, [.int .i64 0, .int .i64 0, .string ⟨#[]⟩, .int .i64 0, .int .i64 0, .slice none 0 0, .slice none 0 0, .slice none 0 0, .slice none 0 0, .slice none 0 0, .slice none 0 0, .slice none 0 0, .slice none 0 0, .int .i64 0, .bool false], 50⟩, ⟨1, b1, [ic x.id, ic x.found, .string x.text, ic x.version, ic x.law,   .slice (some ⟨g, 0, none⟩) cssm.length smc, .slice spa spn spc, .slice sba sbn sbc, .slice sta stn stc, .slice soa son soc, .slice sua sun suc, .slice sqa sqn sqc, .slice sca scn scc, ic x.fund, .bool x.ended], 50⟩] ++ (Blk g (.cells cur Tm (0, 0)) :: (ownB bq ++ (ownB bc ++ ownB br)))) (Box.hp ⟨900, g, cur.toList, Tm⟩ :: (List.map Box.hp [⟨2, b2, [.int .i64 0, .int .i64 0, .string ⟨#[]⟩, .int .i64 0, .int .i64 0, .slice none 0 0, .slice none 0 0, .slice none 0 0, .slice none 0 0, .slice none 0 0, .slice none 0 0, .slice none 0 0, .slice none 0 0, .int .i64 0, .bool false], 50⟩, ⟨1, b1, [ic x.id, ic x.found, .string x.text, ic x.version, ic x.law,   .slice (some ⟨g, 0, none⟩) cssm.length smc, .slice spa spn spc, .slice sba sbn sbc, .slice sta stn stc, .slice soa son soc, .slice sua sun suc, .slice sqa sqn sqc, .slice sca scn scc, ic x.fund, .bool x.ended], 50⟩] ++ (ownB bq ++ (ownB bc ++ ownB br))))
        rw [this]; exact List.perm_middle
      refine W_seq (W_reg ?_)
      simp only [r57_4, sx, Nat.reduceBEq, Nat.reduceAdd, Nat.reduceLeDiff, reduceCtorEq]
      refine W_blk (W_loop (fun m e bx own u2 => ∃ i news bsA, i ≤ cssm.length ∧ m = cssm.length - i ∧ news.length = i ∧ All2 (memberR (MB bsA)) news (x.members.take i) ∧ (∀ cs ∈ news, cs.length = 5) ∧ St [(1, .pointer (some ⟨b1, 0, none⟩)), (2, .pointer (some ⟨b2, 0, none⟩)), (40, ic cssm.length), (41, ic i)] (⟨900, g, (news ++ cssm.drop i).flatten ++ tail, Tm⟩ :: [⟨2, b2, [.int .i64 0, .int .i64 0, .string ⟨#[]⟩, .int .i64 0, .int .i64 0, .slice none 0 0, .slice none 0 0, .slice none 0 0, .slice none 0 0, .slice none 0 0, .slice none 0 0, .slice none 0 0, .slice none 0 0, .int .i64 0, .bool false], 50⟩, ⟨1, b1, [ic x.id, ic x.found, .string x.text, ic x.version, ic x.law,   .slice (some ⟨g, 0, none⟩) cssm.length smc, .slice spa spn spc, .slice sba sbn sbc, .slice sta stn stc, .slice soa son soc, .slice sua sun suc, .slice sqa sqn sqc, .slice sca scn scc, ic x.fund, .bool x.ended], 50⟩]) (fun own u2 => u' = u2 ∧ own = ownB bsA ++ (ownB bq ++ (ownB bc ++ ownB br))) e bx own u2) (m := cssm.length) ⟨0, [], [], by omega, by omega, rfl, trivial, by simp, ?_⟩ ?_)
      · exact .mk ⟨rfl, rfl⟩
      rintro m e bx own u2 ⟨i, news, bsA, hi, rfl, hnl, hall2, hn5, ⟨rfl, rfl⟩⟩
      refine W_seq (W_reg ?_)
      simp only [r57_5, sx, Nat.reduceBEq, Nat.reduceAdd, Nat.reduceLeDiff, reduceCtorEq]
      refine W_seq (W_cnd rfl (fun hc => W_skip ?_) (fun hc => ?_))
      · have hlt : i < cssm.length := by simpa using hc
        have hlx : i < x.members.length := by omega
        refine W_seq (W_blk ?_)
        refine W_seq (W_reg ?_)
        simp only [r57_6, sx, Nat.reduceBEq, Nat.reduceAdd, Nat.reduceLeDiff, reduceCtorEq]
        refine W_drw (drawOK mixedP) ?_
        simp only [WSD, A.wpD, r57_7, r57_7a, sx, Nat.reduceBEq, Nat.reduceAdd, Nat.reduceLeDiff, reduceCtorEq]
        have hdrop := List.drop_eq_getElem_cons hlt
        have hk5 : ∀ cs ∈ news ++ cssm.drop i, cs.length = 5 := fun cs hcs => by
          rcases List.mem_append.1 hcs with h | h
          · exact hn5 cs h
          · exact hlenm cs (List.mem_of_mem_drop h)
        have hat : i < (news ++ cssm.drop i).length := by simp; omega
        have hget : (news ++ cssm.drop i)[i] = cssm[i] := by
          rw [List.getElem_append_right (by omega)]; simp [hnl]
        refine ⟨by omega, cssm[i], ?_, hlenm _ (List.getElem_mem hlt), ?_⟩
        · have := brow_at (bx := ⟨900, g, (news ++ cssm.drop i).flatten ++ tail, Tm⟩ :: [⟨2, b2, [.int .i64 0, .int .i64 0, .string ⟨#[]⟩, .int .i64 0, .int .i64 0, .slice none 0 0, .slice none 0 0, .slice none 0 0, .slice none 0 0, .slice none 0 0, .slice none 0 0, .slice none 0 0, .slice none 0 0, .int .i64 0, .bool false], 50⟩, ⟨1, b1, [ic x.id, ic x.found, .string x.text, ic x.version, ic x.law,   .slice (some ⟨g, 0, none⟩) cssm.length smc, .slice spa spn spc, .slice sba sbn sbc, .slice sta stn stc, .slice soa son soc, .slice sua sun suc, .slice sqa sqn sqc, .slice sca scn scc, ic x.fund, .bool x.ended], 50⟩]) (nm := 900) (g := g) (T := Tm) (tail := tail) (List.mem_cons_self ..) hk5 hat (u := u')
          rw [hget] at this
          exact this
        simp only [WSD, A.wpD, r57_7b, sx, Nat.reduceBEq, Nat.reduceAdd, Nat.reduceLeDiff, reduceCtorEq]
        refine CallWD.u (copiedMember (hallm.at_ hlt hlx)) ?_
        rintro v own' u3 ⟨rfl, cs', bs', rfl, rfl, hcs'⟩ _
        have hl5 : cs'.length = 5 := by obtain ⟨_, rfl, _⟩ := id hcs'; rfl
        have ha5 : all1 cs' := all1_member hcs'
        simp only [WSD, A.wpD, r57_7c, r57_7d, sx, Nat.reduceBEq, Nat.reduceAdd, Nat.reduceLeDiff, reduceCtorEq]
        have hbl : ((news ++ cssm.drop i).flatten ++ tail).length = cssm.length * 5 + tail.length := by
          rw [List.length_append, flat_len hk5]; simp; omega
        refine ⟨by omega, 900, _, rfl, rfl, hl5, by rw [hbl]; omega, ha5, ?_⟩
        have hset : setAt ((news ++ cssm.drop i).flatten ++ tail) (i * 5) cs' = ((news ++ [cs']) ++ cssm.drop (i + 1)).flatten ++ tail := by
          have := setAt_flat (news := news) (olds := cssm.drop (i + 1)) (c := cssm[i]) (vs := cs') (tail := tail) hn5 (hlenm _ (List.getElem_mem hlt)) hl5
          rw [hnl] at this
          rw [hdrop]; exact this
        simp only [hset, sx, Nat.reduceBEq, Nat.reduceAdd, Nat.reduceLeDiff, reduceCtorEq]
        refine W_reg ?_
        simp only [r57_8, sx, Nat.reduceBEq, Nat.reduceAdd, Nat.reduceLeDiff, reduceCtorEq]
        rw [wrapS hlt hmaxm]
        refine ⟨_, by omega, i + 1, news ++ [cs'], bs' ++ bsA, by omega, rfl, by simp [hnl], ?_, ?_, ?_⟩
        · rw [List.take_succ_eq_append_getElem hlx]
          exact (hall2.mono fun a b h => memberR.mono h mb_right).app (memberR.mono hcs' mb_left)
        · intro cs hcs
          rcases List.mem_append.1 hcs with h | h
          · exact hn5 cs h
          · simp at h; rw [h]; exact hl5
        · exact .mk ⟨rfl, by simp [ownB_app]⟩
      · have hge : ¬ i < cssm.length := by simpa using hc
        refine W_env (e' := [(1, .pointer (some ⟨b1, 0, none⟩)), (2, .pointer (some ⟨b2, 0, none⟩))]) (fun t v h => lk_pre h) ?_
        rw [List.drop_eq_nil_of_le (by omega), List.append_nil]
        rw [List.take_of_length_le (by omega)] at hall2
        refine W_gh (bx' := [⟨2, b2, [.int .i64 0, .int .i64 0, .string ⟨#[]⟩, .int .i64 0, .int .i64 0, .slice none 0 0, .slice none 0 0, .slice none 0 0, .slice none 0 0, .slice none 0 0, .slice none 0 0, .slice none 0 0, .slice none 0 0, .int .i64 0, .bool false], 50⟩, ⟨1, b1, [ic x.id, ic x.found, .string x.text, ic x.version, ic x.law,   .slice (some ⟨g, 0, none⟩) cssm.length smc, .slice spa spn spc, .slice sba sbn sbc, .slice sta stn stc, .slice soa son soc, .slice sua sun suc, .slice sqa sqn sqc, .slice sca scn scc, ic x.fund, .bool x.ended], 50⟩]) (own' := ownB ((g, .cells (news.flatten ++ tail).toArray Tm (0, 0)) :: bsA) ++ (ownB bq ++ (ownB bc ++ ownB br))) (fun w i => i.perm ?_) (W_exit ?_)
        · unfold props
          exact List.perm_middle.symm
        simp only [sx, Nat.reduceBEq, Nat.reduceAdd, Nat.reduceLeDiff, reduceCtorEq]
        refine ⟨(g, .cells (news.flatten ++ tail).toArray Tm (0, 0)) :: bsA, ⟨news, ?_, hall2.mono fun a b h => memberR.mono h (fun b o hb => List.mem_cons_of_mem _ hb)⟩, .mk ⟨rfl, rfl⟩⟩
        have hnn : news.length = cssm.length := by omega
        have : Value.slice (some ⟨g, 0, none⟩) cssm.length smc = .slice (some ⟨g, 0, none⟩) news.length smc := by rw [hnn]
        rw [this]
        refine ⟨_, smc, rfl, by omega, by omega, fun _ => ⟨g, 0, rfl, _, Tm, (0, 0), List.mem_cons_self .., by simp⟩, hn5⟩
  · rintro e bx own u2 ⟨bm', hM, ⟨rfl, rfl⟩⟩
    refine W_perm (own' := ownB bq ++ (ownB bm' ++ (ownB bc ++ ownB br))) ?_ ?_
    · classical
      refine List.perm_iff_count.2 fun x => ?_
      simp only [List.count_append]
      omega
    refine W_mid (fun e bx own u2 => ∃ bq', Sl 5 proposalR (MB bq') (.slice sqa sqn sqc) x.op ∧ St [(1, .pointer (some ⟨b1, 0, none⟩)), (2, .pointer (some ⟨b2, 0, none⟩))] [⟨2, b2, [.int .i64 0, .int .i64 0, .string ⟨#[]⟩, .int .i64 0, .int .i64 0, .slice none 0 0, .slice none 0 0, .slice none 0 0, .slice none 0 0, .slice none 0 0, .slice none 0 0, .slice none 0 0, .slice none 0 0, .int .i64 0, .bool false], 50⟩, ⟨1, b1, [ic x.id, ic x.found, .string x.text, ic x.version, ic x.law, .slice sma smn smc, .slice spa spn spc, .slice sba sbn sbc, .slice sta stn stc, .slice soa son soc, .slice sua sun suc, .slice sqa sqn sqc, .slice sca scn scc, ic x.fund, .bool x.ended], 50⟩] (fun own u2 => u' = u2 ∧ own = ownB bq' ++ (ownB bm' ++ (ownB bc ++ ownB br))) e bx own u2) ?_ ?_
    · by_cases h0 : cssq = []
      · subst h0
        have hx0 : x.op = [] := List.eq_nil_of_length_eq_zero (by simpa using hlq.symm)
        obtain ⟨_, _, hq1, _⟩ := id hsq2
        injection hq1 with q1 q2 q3
        refine W_seq (W_reg ?_)
        simp only [r57_9, sx, Nat.reduceBEq, Nat.reduceAdd, Nat.reduceLeDiff, reduceCtorEq]
        refine W_blk (W_loop (fun m e bx own u2 => m = 0 ∧ St [(1, .pointer (some ⟨b1, 0, none⟩)), (2, .pointer (some ⟨b2, 0, none⟩)), (57, ic 0), (58, ic 0)] [⟨2, b2, [.int .i64 0, .int .i64 0, .string ⟨#[]⟩, .int .i64 0, .int .i64 0, .slice none 0 0, .slice none 0 0, .slice none 0 0, .slice none 0 0, .slice none 0 0, .slice none 0 0, .slice none 0 0, .slice none 0 0, .int .i64 0, .bool false], 50⟩, ⟨1, b1, [ic x.id, ic x.found, .string x.text, ic x.version, ic x.law, .slice sma smn smc, .slice spa spn spc, .slice sba sbn sbc, .slice sta stn stc, .slice soa son soc, .slice sua sun suc, .slice sqa sqn sqc, .slice sca scn scc, ic x.fund, .bool x.ended], 50⟩] (fun own u2 => u' = u2 ∧ own = ownB bq ++ (ownB bm' ++ (ownB bc ++ ownB br))) e bx own u2) (m := 0) ⟨rfl, ?_⟩ ?_)
        · subst q2; exact .mk ⟨rfl, rfl⟩
        · rintro m e bx own u2 ⟨rfl, ⟨rfl, rfl⟩⟩
          refine W_seq (W_reg ?_)
          simp only [r57_10, sx, Nat.reduceBEq, Nat.reduceAdd, Nat.reduceLeDiff, reduceCtorEq]
          refine W_seq (W_cnd rfl (fun hc => by simp at hc) (fun hc => ?_))
          refine W_env (e' := [(1, .pointer (some ⟨b1, 0, none⟩)), (2, .pointer (some ⟨b2, 0, none⟩))]) (fun t v h => lk_pre h) (W_exit ?_)
          simp only [sx, Nat.reduceBEq, Nat.reduceAdd, Nat.reduceLeDiff, reduceCtorEq]
          exact ⟨bq, ⟨[], hsq2, by rw [hx0]; trivial⟩, .mk ⟨rfl, rfl⟩⟩
      · obtain ⟨hl, ⟨_, hn0, _⟩ | ⟨g, cap, cur, hsl, rfl, hcap, hcm, hcs, htk⟩⟩ := hrq
        · exact absurd (List.eq_nil_of_length_eq_zero hn0) h0
        injection hsl with q1 q2 q3
        subst q1; subst q2; subst q3
        have hmaxm : cssq.length ≤ maxN := by obtain ⟨_, _, _, h, _⟩ := id hsq2; exact h
        have hlenm : ∀ cs ∈ cssq, cs.length = 5 := by obtain ⟨_, _, _, _, _, _, h⟩ := id hsq2; exact h
        obtain ⟨tail, htail⟩ : ∃ tail, cur.toList = cssq.flatten ++ tail := ⟨cur.toList.drop (cssq.length * 5), by rw [← htk, List.take_append_drop]⟩
        refine W_gh (bx' := ⟨900, g, cssq.flatten ++ tail, Tq⟩ :: [⟨2, b2, [.int .i64 0, .int .i64 0, .string ⟨#[]⟩, .int .i64 0, .int .i64 0, .slice none 0 0, .slice none 0 0, .slice none 0 0, .slice none 0 0, .slice none 0 0, .slice none 0 0, .slice none 0 0, .slice none 0 0, .int .i64 0, .bool false], 50⟩, ⟨1, b1, [ic x.id, ic x.found, .string x.text, ic x.version, ic x.law, .slice sma smn smc, .slice spa spn spc, .slice sba sbn sbc, .slice sta stn stc, .slice soa son soc, .slice sua sun suc, .slice (some ⟨g, 0, none⟩) cssq.length sqc, .slice sca scn scc, ic x.fund, .bool x.ended], 50⟩]) (own' := ownB bm' ++ (ownB bc ++ ownB br)) (fun w i => i.perm ?_) ?_
        · unfold props
          rw [← htail]
          have : (Box.hp ⟨900, g, cur.toList, Tq⟩ : HP) = Blk g (.cells cur Tq (0, 0)) := by simp [Box.hp]
          show List.Perm (List.map Box.hp [⟨2, b2, [.int .i64 0, .int .i64 0, .string ⟨#[]⟩, .int .i64 0, .int .i64 0, .slice none 0 0, .slice none 0 0, .slice none 0 0, .slice none 0 0, .slice none 0 0, .slice none 0 0, .slice none 0 0, .slice none 0 0, .int .i64 0, .bool false], 50⟩, ⟨1, b1, [ic x.id, ic x.found, .string x.text, ic x.version, ic x.law, .slice sma smn smc, .slice spa spn spc, .slice sba sbn sbc, .slice sta stn stc, .slice soa son soc, .slice sua sun suc, .slice (some ⟨g, 0, none⟩) cssq.length sqc, .slice sca scn scc, ic x.fund, .bool x.ended], 50⟩] ++ (Blk g (.cells cur Tq (0, 0)) :: (ownB bm' ++ (ownB bc ++ ownB br)))) (Box.hp ⟨900, g, cur.toList, Tq⟩ :: (List.map Box.hp [⟨2, b2, [.int .i64 0, .int .i64 0, .string ⟨#[]⟩, .int .i64 0, .int .i64 0, .slice none 0 0, .slice none 0 0, .slice none 0 0, .slice none 0 0, .slice none 0 0, .slice none 0 0, .slice none 0 0, .slice none 0 0, .int .i64 0, .bool false], 50⟩, ⟨1, b1, [ic x.id, ic x.found, .string x.text, ic x.version, ic x.law, .slice sma smn smc, .slice spa spn spc, .slice sba sbn sbc, .slice sta stn stc, .slice soa son soc, .slice sua sun suc, .slice (some ⟨g, 0, none⟩) cssq.length sqc, .slice sca scn scc, ic x.fund, .bool x.ended], 50⟩] ++ (ownB bm' ++ (ownB bc ++ ownB br))))
          rw [this]; exact List.perm_middle
        refine W_seq (W_reg ?_)
        simp only [r57_9, sx, Nat.reduceBEq, Nat.reduceAdd, Nat.reduceLeDiff, reduceCtorEq]
        refine W_blk (W_loop (fun m e bx own u2 => ∃ i news bsA, i ≤ cssq.length ∧ m = cssq.length - i ∧ news.length = i ∧ All2 (proposalR (MB bsA)) news (x.op.take i) ∧ (∀ cs ∈ news, cs.length = 5) ∧ St [(1, .pointer (some ⟨b1, 0, none⟩)), (2, .pointer (some ⟨b2, 0, none⟩)), (57, ic cssq.length), (58, ic i)] (⟨900, g, (news ++ cssq.drop i).flatten ++ tail, Tq⟩ :: [⟨2, b2, [.int .i64 0, .int .i64 0, .string ⟨#[]⟩, .int .i64 0, .int .i64 0, .slice none 0 0, .slice none 0 0, .slice none 0 0, .slice none 0 0, .slice none 0 0, .slice none 0 0, .slice none 0 0, .slice none 0 0, .int .i64 0, .bool false], 50⟩, ⟨1, b1, [ic x.id, ic x.found, .string x.text, ic x.version, ic x.law, .slice sma smn smc, .slice spa spn spc, .slice sba sbn sbc, .slice sta stn stc, .slice soa son soc, .slice sua sun suc, .slice (some ⟨g, 0, none⟩) cssq.length sqc, .slice sca scn scc, ic x.fund, .bool x.ended], 50⟩]) (fun own u2 => u' = u2 ∧ own = ownB bsA ++ (ownB bm' ++ (ownB bc ++ ownB br))) e bx own u2) (m := cssq.length) ⟨0, [], [], by omega, by omega, rfl, trivial, by simp, ?_⟩ ?_)
        · exact .mk ⟨rfl, rfl⟩
        rintro m e bx own u2 ⟨i, news, bsA, hi, rfl, hnl, hall2, hn5, ⟨rfl, rfl⟩⟩
        refine W_seq (W_reg ?_)
        simp only [r57_10, sx, Nat.reduceBEq, Nat.reduceAdd, Nat.reduceLeDiff, reduceCtorEq]
        refine W_seq (W_cnd rfl (fun hc => W_skip ?_) (fun hc => ?_))
        · have hlt : i < cssq.length := by simpa using hc
          have hlx : i < x.op.length := by omega
          refine W_seq (W_blk ?_)
          refine W_seq (W_reg ?_)
          simp only [r57_11, sx, Nat.reduceBEq, Nat.reduceAdd, Nat.reduceLeDiff, reduceCtorEq]
          refine W_drw (drawOK mixedP) ?_
          simp only [WSD, A.wpD, r57_12, r57_12a, sx, Nat.reduceBEq, Nat.reduceAdd, Nat.reduceLeDiff, reduceCtorEq]
          have hdrop := List.drop_eq_getElem_cons hlt
          have hk5 : ∀ cs ∈ news ++ cssq.drop i, cs.length = 5 := fun cs hcs => by
            rcases List.mem_append.1 hcs with h | h
            · exact hn5 cs h
            · exact hlenm cs (List.mem_of_mem_drop h)
          have hat : i < (news ++ cssq.drop i).length := by simp; omega
          have hget : (news ++ cssq.drop i)[i] = cssq[i] := by
            rw [List.getElem_append_right (by omega)]; simp [hnl]
          obtain ⟨vo3, heq3, hvo3⟩ := hallq.at_ hlt hlx
          have hrd : lrow (⟨900, g, (news ++ cssq.drop i).flatten ++ tail, Tq⟩ :: [⟨2, b2, [.int .i64 0, .int .i64 0, .string ⟨#[]⟩, .int .i64 0, .int .i64 0, .slice none 0 0, .slice none 0 0, .slice none 0 0, .slice none 0 0, .slice none 0 0, .slice none 0 0, .slice none 0 0, .slice none 0 0, .int .i64 0, .bool false], 50⟩, ⟨1, b1, [ic x.id, ic x.found, .string x.text, ic x.version, ic x.law, .slice sma smn smc, .slice spa spn spc, .slice sba sbn sbc, .slice sta stn stc, .slice soa son soc, .slice sua sun suc, .slice (some ⟨g, 0, none⟩) cssq.length sqc, .slice sca scn scc, ic x.fund, .bool x.ended], 50⟩]) u' g (i * 5 + 3) [vo3] := by
            refine .inr ⟨_, List.mem_cons_self .., rfl, ?_⟩
            obtain ⟨f1, f2⟩ := flat_at hk5 hat
            rw [hget, heq3] at f1
            rw [List.drop_append_of_le_length (by omega), List.take_append_of_le_length (by rw [List.length_drop]; show 1 ≤ _; omega)]
            have : ((news ++ cssq.drop i).flatten.drop (i * 5 + 3)).take 1 = List.take 1 (List.drop 3 (List.take 5 (List.drop (i * 5) (news ++ cssq.drop i).flatten))) := by
              rw [List.drop_take, List.take_take, List.drop_drop]; rfl
            show List.take 1 _ = _
            rw [this, f1]; rfl
          refine ⟨by omega, [vo3], hrd, rfl, ?_⟩
          simp only [WSD, A.wpD, r57_12b, sx, Nat.reduceBEq, Nat.reduceAdd, Nat.reduceLeDiff, reduceCtorEq]
          refine CallWD.u (clone63 hvo3 (all1_map all1_voice _)) ?_
          rintro v own' u3 ⟨rfl, bs', rfl, hvs, _⟩ _
          obtain ⟨wa, wn, wc, rfl⟩ := hvs.form
          have hcs' : proposalR (MB bs') [ic x.op[i].mark, ic x.op[i].day, ic x.op[i].kind, .slice wa wn wc, ic x.op[i].done] x.op[i] := ⟨_, rfl, hvs⟩
          generalize hcsE : [ic x.op[i].mark, ic x.op[i].day, ic x.op[i].kind, .slice wa wn wc, ic x.op[i].done] = cs' at hcs'
          have hl5 : cs'.length = 5 := by rw [← hcsE]; rfl
          simp only [WSD, A.wpD, r57_12c, r57_12d, sx, Nat.reduceBEq, Nat.reduceAdd, Nat.reduceLeDiff, reduceCtorEq]
          have hbl : ((news ++ cssq.drop i).flatten ++ tail).length = cssq.length * 5 + tail.length := by
            rw [List.length_append, flat_len hk5]; simp; omega
          refine ⟨by omega, 900, _, rfl, rfl, by rw [hbl]; omega, ?_⟩
          have hset : setAt ((news ++ cssq.drop i).flatten ++ tail) (i * 5 + 3) [.slice wa wn wc] = ((news ++ [cs']) ++ cssq.drop (i + 1)).flatten ++ tail := by
            rw [hdrop, heq3, ← hcsE]
            have e1 : i * 5 + 3 = (news.flatten ++ [ic x.op[i].mark, ic x.op[i].day, ic x.op[i].kind]).length := by
              rw [List.length_append, flat_len hn5, hnl]; rfl
            have e2 : (news ++ [ic x.op[i].mark, ic x.op[i].day, ic x.op[i].kind, vo3, ic x.op[i].done] :: cssq.drop (i + 1)).flatten ++ tail = (news.flatten ++ [ic x.op[i].mark, ic x.op[i].day, ic x.op[i].kind]) ++ (vo3 :: ic x.op[i].done :: ((cssq.drop (i + 1)).flatten ++ tail)) := by simp
            rw [e1, e2, Go.Proofs.YtenmmfkgopffgaaGreatDoor.setAt_app _ _ _ (by simp)]
            simp
          simp only [hset, sx, Nat.reduceBEq, Nat.reduceAdd, Nat.reduceLeDiff, reduceCtorEq]
          refine W_reg ?_
          simp only [r57_13, sx, Nat.reduceBEq, Nat.reduceAdd, Nat.reduceLeDiff, reduceCtorEq]
          rw [wrapS hlt hmaxm]
          refine ⟨_, by omega, i + 1, news ++ [cs'], bs' ++ bsA, by omega, rfl, by simp [hnl], ?_, ?_, ?_⟩
          · rw [List.take_succ_eq_append_getElem hlx]
            exact (hall2.mono fun a b h => proposalR.mono h mb_right).app (proposalR.mono hcs' mb_left)
          · intro cs hcs
            rcases List.mem_append.1 hcs with h | h
            · exact hn5 cs h
            · simp at h; rw [h]; exact hl5
          · exact .mk ⟨rfl, by simp [ownB_app]⟩
        · have hge : ¬ i < cssq.length := by simpa using hc
          refine W_env (e' := [(1, .pointer (some ⟨b1, 0, none⟩)), (2, .pointer (some ⟨b2, 0, none⟩))]) (fun t v h => lk_pre h) ?_
          rw [List.drop_eq_nil_of_le (by omega), List.append_nil]
          rw [List.take_of_length_le (by omega)] at hall2
          refine W_gh (bx' := [⟨2, b2, [.int .i64 0, .int .i64 0, .string ⟨#[]⟩, .int .i64 0, .int .i64 0, .slice none 0 0, .slice none 0 0, .slice none 0 0, .slice none 0 0, .slice none 0 0, .slice none 0 0, .slice none 0 0, .slice none 0 0, .int .i64 0, .bool false], 50⟩, ⟨1, b1, [ic x.id, ic x.found, .string x.text, ic x.version, ic x.law, .slice sma smn smc, .slice spa spn spc, .slice sba sbn sbc, .slice sta stn stc, .slice soa son soc, .slice sua sun suc, .slice (some ⟨g, 0, none⟩) cssq.length sqc, .slice sca scn scc, ic x.fund, .bool x.ended], 50⟩]) (own' := ownB ((g, .cells (news.flatten ++ tail).toArray Tq (0, 0)) :: bsA) ++ (ownB bm' ++ (ownB bc ++ ownB br))) (fun w i => i.perm ?_) (W_exit ?_)
          · unfold props
            exact List.perm_middle.symm
          simp only [sx, Nat.reduceBEq, Nat.reduceAdd, Nat.reduceLeDiff, reduceCtorEq]
          refine ⟨(g, .cells (news.flatten ++ tail).toArray Tq (0, 0)) :: bsA, ⟨news, ?_, hall2.mono fun a b h => proposalR.mono h (fun b o hb => List.mem_cons_of_mem _ hb)⟩, .mk ⟨rfl, rfl⟩⟩
          have hnn : news.length = cssq.length := by omega
          have : Value.slice (some ⟨g, 0, none⟩) cssq.length sqc = .slice (some ⟨g, 0, none⟩) news.length sqc := by rw [hnn]
          rw [this]
          refine ⟨_, sqc, rfl, by omega, by omega, fun _ => ⟨g, 0, rfl, _, Tq, (0, 0), List.mem_cons_self .., by simp⟩, hn5⟩
    · rintro e bx own u2 ⟨bq', hQ, ⟨rfl, rfl⟩⟩
      refine W_perm (own' := ownB bc ++ (ownB bm' ++ (ownB bq' ++ ownB br))) ?_ ?_
      · classical
        refine List.perm_iff_count.2 fun x => ?_
        simp only [List.count_append]
        omega
      refine W_mid (fun e bx own u2 => ∃ bc', Sl 12 claimR (MB bc') (.slice sca scn scc) x.claims ∧ St [(1, .pointer (some ⟨b1, 0, none⟩)), (2, .pointer (some ⟨b2, 0, none⟩))] [⟨2, b2, [.int .i64 0, .int .i64 0, .string ⟨#[]⟩, .int .i64 0, .int .i64 0, .slice none 0 0, .slice none 0 0, .slice none 0 0, .slice none 0 0, .slice none 0 0, .slice none 0 0, .slice none 0 0, .slice none 0 0, .int .i64 0, .bool false], 50⟩, ⟨1, b1, [ic x.id, ic x.found, .string x.text, ic x.version, ic x.law, .slice sma smn smc, .slice spa spn spc, .slice sba sbn sbc, .slice sta stn stc, .slice soa son soc, .slice sua sun suc, .slice sqa sqn sqc, .slice sca scn scc, ic x.fund, .bool x.ended], 50⟩] (fun own u2 => u' = u2 ∧ own = ownB bc' ++ (ownB bm' ++ (ownB bq' ++ ownB br))) e bx own u2) ?_ ?_
      · by_cases h0 : cssc = []
        · subst h0
          have hx0 : x.claims = [] := List.eq_nil_of_length_eq_zero (by simpa using hlc.symm)
          obtain ⟨_, _, hq1, _⟩ := id hsc2
          injection hq1 with q1 q2 q3
          refine W_seq (W_reg ?_)
          simp only [r57_14, sx, Nat.reduceBEq, Nat.reduceAdd, Nat.reduceLeDiff, reduceCtorEq]
          refine W_blk (W_loop (fun m e bx own u2 => m = 0 ∧ St [(1, .pointer (some ⟨b1, 0, none⟩)), (2, .pointer (some ⟨b2, 0, none⟩)), (76, ic 0), (77, ic 0)] [⟨2, b2, [.int .i64 0, .int .i64 0, .string ⟨#[]⟩, .int .i64 0, .int .i64 0, .slice none 0 0, .slice none 0 0, .slice none 0 0, .slice none 0 0, .slice none 0 0, .slice none 0 0, .slice none 0 0, .slice none 0 0, .int .i64 0, .bool false], 50⟩, ⟨1, b1, [ic x.id, ic x.found, .string x.text, ic x.version, ic x.law, .slice sma smn smc, .slice spa spn spc, .slice sba sbn sbc, .slice sta stn stc, .slice soa son soc, .slice sua sun suc, .slice sqa sqn sqc, .slice sca scn scc, ic x.fund, .bool x.ended], 50⟩] (fun own u2 => u' = u2 ∧ own = ownB bc ++ (ownB bm' ++ (ownB bq' ++ ownB br))) e bx own u2) (m := 0) ⟨rfl, ?_⟩ ?_)
          · subst q2; exact .mk ⟨rfl, rfl⟩
          · rintro m e bx own u2 ⟨rfl, ⟨rfl, rfl⟩⟩
            refine W_seq (W_reg ?_)
            simp only [r57_15, sx, Nat.reduceBEq, Nat.reduceAdd, Nat.reduceLeDiff, reduceCtorEq]
            refine W_seq (W_cnd rfl (fun hc => by simp at hc) (fun hc => ?_))
            refine W_env (e' := [(1, .pointer (some ⟨b1, 0, none⟩)), (2, .pointer (some ⟨b2, 0, none⟩))]) (fun t v h => lk_pre h) (W_exit ?_)
            simp only [sx, Nat.reduceBEq, Nat.reduceAdd, Nat.reduceLeDiff, reduceCtorEq]
            exact ⟨bc, ⟨[], hsc2, by rw [hx0]; trivial⟩, .mk ⟨rfl, rfl⟩⟩
        · obtain ⟨hl, ⟨_, hn0, _⟩ | ⟨g, cap, cur, hsl, rfl, hcap, hcm, hcs, htk⟩⟩ := hrc
          · exact absurd (List.eq_nil_of_length_eq_zero hn0) h0
          injection hsl with q1 q2 q3
          subst q1; subst q2; subst q3
          have hmaxm : cssc.length ≤ maxN := by obtain ⟨_, _, _, h, _⟩ := id hsc2; exact h
          have hlenm : ∀ cs ∈ cssc, cs.length = 12 := by obtain ⟨_, _, _, _, _, _, h⟩ := id hsc2; exact h
          obtain ⟨tail, htail⟩ : ∃ tail, cur.toList = cssc.flatten ++ tail := ⟨cur.toList.drop (cssc.length * 12), by rw [← htk, List.take_append_drop]⟩
          refine W_gh (bx' := ⟨900, g, cssc.flatten ++ tail, Tc⟩ :: [⟨2, b2, [.int .i64 0, .int .i64 0, .string ⟨#[]⟩, .int .i64 0, .int .i64 0, .slice none 0 0, .slice none 0 0, .slice none 0 0, .slice none 0 0, .slice none 0 0, .slice none 0 0, .slice none 0 0, .slice none 0 0, .int .i64 0, .bool false], 50⟩, ⟨1, b1, [ic x.id, ic x.found, .string x.text, ic x.version, ic x.law, .slice sma smn smc, .slice spa spn spc, .slice sba sbn sbc, .slice sta stn stc, .slice soa son soc, .slice sua sun suc, .slice sqa sqn sqc, .slice (some ⟨g, 0, none⟩) cssc.length scc, ic x.fund, .bool x.ended], 50⟩]) (own' := ownB bm' ++ (ownB bq' ++ ownB br)) (fun w i => i.perm ?_) ?_
          · unfold props
            rw [← htail]
            have : (Box.hp ⟨900, g, cur.toList, Tc⟩ : HP) = Blk g (.cells cur Tc (0, 0)) := by simp [Box.hp]
            show List.Perm (List.map Box.hp [⟨2, b2, [.int .i64 0, .int .i64 0, .string ⟨#[]⟩, .int .i64 0, .int .i64 0, .slice none 0 0, .slice none 0 0, .slice none 0 0, .slice none 0 0, .slice none 0 0, .slice none 0 0, .slice none 0 0, .slice none 0 0, .int .i64 0, .bool false], 50⟩, ⟨1, b1, [ic x.id, ic x.found, .string x.text, ic x.version, ic x.law, .slice sma smn smc, .slice spa spn spc, .slice sba sbn sbc, .slice sta stn stc, .slice soa son soc, .slice sua sun suc, .slice sqa sqn sqc, .slice (some ⟨g, 0, none⟩) cssc.length scc, ic x.fund, .bool x.ended], 50⟩] ++ (Blk g (.cells cur Tc (0, 0)) :: (ownB bm' ++ (ownB bq' ++ ownB br)))) (Box.hp ⟨900, g, cur.toList, Tc⟩ :: (List.map Box.hp [⟨2, b2, [.int .i64 0, .int .i64 0, .string ⟨#[]⟩, .int .i64 0, .int .i64 0, .slice none 0 0, .slice none 0 0, .slice none 0 0, .slice none 0 0, .slice none 0 0, .slice none 0 0, .slice none 0 0, .slice none 0 0, .int .i64 0, .bool false], 50⟩, ⟨1, b1, [ic x.id, ic x.found, .string x.text, ic x.version, ic x.law, .slice sma smn smc, .slice spa spn spc, .slice sba sbn sbc, .slice sta stn stc, .slice soa son soc, .slice sua sun suc, .slice sqa sqn sqc, .slice (some ⟨g, 0, none⟩) cssc.length scc, ic x.fund, .bool x.ended], 50⟩] ++ (ownB bm' ++ (ownB bq' ++ ownB br))))
            rw [this]; exact List.perm_middle
          refine W_seq (W_reg ?_)
          simp only [r57_14, sx, Nat.reduceBEq, Nat.reduceAdd, Nat.reduceLeDiff, reduceCtorEq]
          refine W_blk (W_loop (fun m e bx own u2 => ∃ i news bsA, i ≤ cssc.length ∧ m = cssc.length - i ∧ news.length = i ∧ All2 (claimR (MB bsA)) news (x.claims.take i) ∧ (∀ cs ∈ news, cs.length = 12) ∧ St [(1, .pointer (some ⟨b1, 0, none⟩)), (2, .pointer (some ⟨b2, 0, none⟩)), (76, ic cssc.length), (77, ic i)] (⟨900, g, (news ++ cssc.drop i).flatten ++ tail, Tc⟩ :: [⟨2, b2, [.int .i64 0, .int .i64 0, .string ⟨#[]⟩, .int .i64 0, .int .i64 0, .slice none 0 0, .slice none 0 0, .slice none 0 0, .slice none 0 0, .slice none 0 0, .slice none 0 0, .slice none 0 0, .slice none 0 0, .int .i64 0, .bool false], 50⟩, ⟨1, b1, [ic x.id, ic x.found, .string x.text, ic x.version, ic x.law, .slice sma smn smc, .slice spa spn spc, .slice sba sbn sbc, .slice sta stn stc, .slice soa son soc, .slice sua sun suc, .slice sqa sqn sqc, .slice (some ⟨g, 0, none⟩) cssc.length scc, ic x.fund, .bool x.ended], 50⟩]) (fun own u2 => u' = u2 ∧ own = ownB bsA ++ (ownB bm' ++ (ownB bq' ++ ownB br))) e bx own u2) (m := cssc.length) ⟨0, [], [], by omega, by omega, rfl, trivial, by simp, ?_⟩ ?_)
          · exact .mk ⟨rfl, rfl⟩
          rintro m e bx own u2 ⟨i, news, bsA, hi, rfl, hnl, hall2, hn5, ⟨rfl, rfl⟩⟩
          refine W_seq (W_reg ?_)
          simp only [r57_15, sx, Nat.reduceBEq, Nat.reduceAdd, Nat.reduceLeDiff, reduceCtorEq]
          refine W_seq (W_cnd rfl (fun hc => W_skip ?_) (fun hc => ?_))
          · have hlt : i < cssc.length := by simpa using hc
            have hlx : i < x.claims.length := by omega
            refine W_seq (W_blk ?_)
            refine W_seq (W_reg ?_)
            simp only [r57_16, sx, Nat.reduceBEq, Nat.reduceAdd, Nat.reduceLeDiff, reduceCtorEq]
            refine W_drw (drawOK mixedP) ?_
            simp only [WSD, A.wpD, r57_17, r57_17a, sx, Nat.reduceBEq, Nat.reduceAdd, Nat.reduceLeDiff, reduceCtorEq]
            have hdrop := List.drop_eq_getElem_cons hlt
            have hk5 : ∀ cs ∈ news ++ cssc.drop i, cs.length = 12 := fun cs hcs => by
              rcases List.mem_append.1 hcs with h | h
              · exact hn5 cs h
              · exact hlenm cs (List.mem_of_mem_drop h)
            have hat : i < (news ++ cssc.drop i).length := by simp; omega
            have hget : (news ++ cssc.drop i)[i] = cssc[i] := by
              rw [List.getElem_append_right (by omega)]; simp [hnl]
            refine ⟨by omega, cssc[i], ?_, hlenm _ (List.getElem_mem hlt), ?_⟩
            · have := brow_at (bx := ⟨900, g, (news ++ cssc.drop i).flatten ++ tail, Tc⟩ :: [⟨2, b2, [.int .i64 0, .int .i64 0, .string ⟨#[]⟩, .int .i64 0, .int .i64 0, .slice none 0 0, .slice none 0 0, .slice none 0 0, .slice none 0 0, .slice none 0 0, .slice none 0 0, .slice none 0 0, .slice none 0 0, .int .i64 0, .bool false], 50⟩, ⟨1, b1, [ic x.id, ic x.found, .string x.text, ic x.version, ic x.law, .slice sma smn smc, .slice spa spn spc, .slice sba sbn sbc, .slice sta stn stc, .slice soa son soc, .slice sua sun suc, .slice sqa sqn sqc, .slice (some ⟨g, 0, none⟩) cssc.length scc, ic x.fund, .bool x.ended], 50⟩]) (nm := 900) (g := g) (T := Tc) (tail := tail) (List.mem_cons_self ..) hk5 hat (u := u')
              rw [hget] at this
              exact this
            simp only [WSD, A.wpD, r57_17b, sx, Nat.reduceBEq, Nat.reduceAdd, Nat.reduceLeDiff, reduceCtorEq]
            refine CallWD.u (copiedClaim (hallc.at_ hlt hlx)) ?_
            rintro v own' u3 ⟨rfl, cs', bs', rfl, rfl, hcs'⟩ _
            have hl5 : cs'.length = 12 := by obtain ⟨_, _, rfl, _⟩ := id hcs'; rfl
            have ha5 : all1 cs' := all1_claim hcs'
            simp only [WSD, A.wpD, r57_17c, r57_17d, sx, Nat.reduceBEq, Nat.reduceAdd, Nat.reduceLeDiff, reduceCtorEq]
            have hbl : ((news ++ cssc.drop i).flatten ++ tail).length = cssc.length * 12 + tail.length := by
              rw [List.length_append, flat_len hk5]; simp; omega
            refine ⟨by omega, 900, _, rfl, rfl, hl5, by rw [hbl]; omega, ha5, ?_⟩
            have hset : setAt ((news ++ cssc.drop i).flatten ++ tail) (i * 12) cs' = ((news ++ [cs']) ++ cssc.drop (i + 1)).flatten ++ tail := by
              have := setAt_flat (news := news) (olds := cssc.drop (i + 1)) (c := cssc[i]) (vs := cs') (tail := tail) hn5 (hlenm _ (List.getElem_mem hlt)) hl5
              rw [hnl] at this
              rw [hdrop]; exact this
            simp only [hset, sx, Nat.reduceBEq, Nat.reduceAdd, Nat.reduceLeDiff, reduceCtorEq]
            refine W_reg ?_
            simp only [r57_18, sx, Nat.reduceBEq, Nat.reduceAdd, Nat.reduceLeDiff, reduceCtorEq]
            rw [wrapS hlt hmaxm]
            refine ⟨_, by omega, i + 1, news ++ [cs'], bs' ++ bsA, by omega, rfl, by simp [hnl], ?_, ?_, ?_⟩
            · rw [List.take_succ_eq_append_getElem hlx]
              exact (hall2.mono fun a b h => claimR.mono h mb_right).app (claimR.mono hcs' mb_left)
            · intro cs hcs
              rcases List.mem_append.1 hcs with h | h
              · exact hn5 cs h
              · simp at h; rw [h]; exact hl5
            · exact .mk ⟨rfl, by simp [ownB_app]⟩
          · have hge : ¬ i < cssc.length := by simpa using hc
            refine W_env (e' := [(1, .pointer (some ⟨b1, 0, none⟩)), (2, .pointer (some ⟨b2, 0, none⟩))]) (fun t v h => lk_pre h) ?_
            rw [List.drop_eq_nil_of_le (by omega), List.append_nil]
            rw [List.take_of_length_le (by omega)] at hall2
            refine W_gh (bx' := [⟨2, b2, [.int .i64 0, .int .i64 0, .string ⟨#[]⟩, .int .i64 0, .int .i64 0, .slice none 0 0, .slice none 0 0, .slice none 0 0, .slice none 0 0, .slice none 0 0, .slice none 0 0, .slice none 0 0, .slice none 0 0, .int .i64 0, .bool false], 50⟩, ⟨1, b1, [ic x.id, ic x.found, .string x.text, ic x.version, ic x.law, .slice sma smn smc, .slice spa spn spc, .slice sba sbn sbc, .slice sta stn stc, .slice soa son soc, .slice sua sun suc, .slice sqa sqn sqc, .slice (some ⟨g, 0, none⟩) cssc.length scc, ic x.fund, .bool x.ended], 50⟩]) (own' := ownB ((g, .cells (news.flatten ++ tail).toArray Tc (0, 0)) :: bsA) ++ (ownB bm' ++ (ownB bq' ++ ownB br))) (fun w i => i.perm ?_) (W_exit ?_)
            · unfold props
              exact List.perm_middle.symm
            simp only [sx, Nat.reduceBEq, Nat.reduceAdd, Nat.reduceLeDiff, reduceCtorEq]
            refine ⟨(g, .cells (news.flatten ++ tail).toArray Tc (0, 0)) :: bsA, ⟨news, ?_, hall2.mono fun a b h => claimR.mono h (fun b o hb => List.mem_cons_of_mem _ hb)⟩, .mk ⟨rfl, rfl⟩⟩
            have hnn : news.length = cssc.length := by omega
            have : Value.slice (some ⟨g, 0, none⟩) cssc.length scc = .slice (some ⟨g, 0, none⟩) news.length scc := by rw [hnn]
            rw [this]
            refine ⟨_, scc, rfl, by omega, by omega, fun _ => ⟨g, 0, rfl, _, Tc, (0, 0), List.mem_cons_self .., by simp⟩, hn5⟩
      · rintro e bx own u2 ⟨bc', hC, ⟨rfl, rfl⟩⟩
        refine W_seq (W_reg ?_)
        simp only [r57_19, r57_19a, sx, Nat.reduceBEq, Nat.reduceAdd, Nat.reduceLeDiff, reduceCtorEq]
        refine W_ret (RetQ.out rfl ⟨rfl, rfl⟩ ⟨rfl, _, bc' ++ (bm' ++ (bq' ++ br)), by simp [ownB_app], rfl, ?_⟩)
        have l1 : mpl (MB br) (MB (bc' ++ (bm' ++ (bq' ++ br)))) := fun b o h => List.mem_append_right _ (List.mem_append_right _ (List.mem_append_right _ h))
        have lp : mpl (MB bp) (MB br) := fun b o h => by rw [hbr]; simp [MB] at h ⊢; simp [h]
        have lb : mpl (MB bb) (MB br) := fun b o h => by rw [hbr]; simp [MB] at h ⊢; simp [h]
        have lt : mpl (MB bt) (MB br) := fun b o h => by rw [hbr]; simp [MB] at h ⊢; simp [h]
        have lo : mpl (MB bo) (MB br) := fun b o h => by rw [hbr]; simp [MB] at h ⊢; simp [h]
        have lu : mpl (MB bu) (MB br) := fun b o h => by rw [hbr]; simp [MB] at h ⊢; simp [h]
        have tr : ∀ {M : MP}, mpl M (MB br) → mpl M (MB (bc' ++ (bm' ++ (bq' ++ br)))) := fun h b o hb => l1 b o (h b o hb)
        refine ⟨_, _, _, _, _, _, _, _, rfl, ht, ?_, hp2.mono (tr lp), hb2.mono (tr lb), ht2.mono (tr lt), ho2.mono (tr lo), hu2.mono (tr lu), ?_, ?_⟩
        · exact Sl.mono (R := memberR) (fun _ _ _ _ => memberR.mono) hM (fun b o h => List.mem_append_right _ (List.mem_append_left _ h))
        · exact Sl.mono (R := proposalR) (fun _ _ _ _ => proposalR.mono) hQ (fun b o h => List.mem_append_right _ (List.mem_append_right _ (List.mem_append_left _ h)))
        · exact Sl.mono (R := claimR) (fun _ _ _ _ => claimR.mono) hC (fun b o h => List.mem_append_left _ h)
end Go.Proofs.YtenmmfkgopffgaaGreatDoor

set_option maxRecDepth 4000
namespace Go.Proofs.YtenmmfkgopffgaaGreatDoor
open Go

def zeroM : Member := ⟨0, 0, [], 0, 0⟩
def zeroC : Circle := ⟨0, 0, ⟨#[]⟩, 0, 0, [], [], [], [], [], [], [], [], 0, false⟩
theorem nilSlC (M : MP) (k : Nat) : SlC M k (.slice none 0 0) [] := ⟨none, 0, rfl, by simp, by simp, fun q => absurd rfl q, by simp⟩
theorem zeroM_R (M : MP) : memberR M [ic 0, ic 0, .slice none 0 0, ic 0, ic 0] zeroM := ⟨_, rfl, nilSlC M 1⟩
theorem zeroC_R (M : MP) : circleR M [ic 0, ic 0, .string ⟨#[]⟩, ic 0, ic 0, .slice none 0 0, .slice none 0 0, .slice none 0 0, .slice none 0 0, .slice none 0 0, .slice none 0 0, .slice none 0 0, .slice none 0 0, ic 0, .bool false] zeroC :=
  ⟨_, _, _, _, _, _, _, _, rfl, by decide, ⟨[], nilSlC M 5, trivial⟩, nilSlC M 5, nilSlC M 4, nilSlC M 1, nilSlC M 1, nilSlC M 1, ⟨[], nilSlC M 5, trivial⟩, ⟨[], nilSlC M 12, trivial⟩⟩
def FindQ {α : Type} (R : MP → List Value → α → Prop) (z : α) (o : Option α) (u : Mem) (v : Value) (own' : List HP) (u' : Mem) : Prop := u' = u ∧ ∃ cs bs, own' = ownB bs ∧ v = .tuple #[.agg cs.toArray, .bool o.isSome] ∧ R (MB bs) cs (o.getD z)
theorem find_drop {α : Type} {p : α → Bool} {l : List α} {i : Nat} (hi : i < l.length) : (l.drop i).find? p = bif p l[i] then some l[i] else (l.drop (i + 1)).find? p := by
  rw [List.drop_eq_getElem_cons hi, List.find?_cons]
  cases p l[i] <;> rfl
theorem member_c {cs : List Value} {x : Circle} {u : Mem} (key : Int) (hx : circleR (MU u) cs x) : Fn Tryz.prog 19 [.agg cs.toArray, ic key] [] u (FindQ memberR zeroM (x.members.find? fun m => m.key == key) u) := by
  obtain ⟨vm, vp, vb, vt, vo, vu, vq, vc, rfl, ht, ⟨css, ⟨a, c, rfl, hmax, hcap, hrow, hlen⟩, hall⟩, hp, hb_, htu, hpo, hou, hq, hcl⟩ := hx
  have hl := hall.len
  refine fn19 fun cx hu => ?_
  refine W_seq (W_reg ?_)
  simp only [r19_0, r19_0a, r19_0b, sx, Nat.reduceBEq, Nat.reduceAdd, Nat.reduceLeDiff, reduceCtorEq]
  intro b2 b4
  refine W_seq ?_
  refine W_seq (W_reg ?_)
  simp only [r19_1, sx, Nat.reduceBEq, Nat.reduceAdd, Nat.reduceLeDiff, reduceCtorEq]
  refine W_blk (W_loop (fun m e bx own u' => ∃ i, i ≤ css.length ∧ m = css.length - i ∧ St [(1, ic key), (4, .pointer (some ⟨b4, 0, none⟩)), (9, .slice a css.length c), (10, ic css.length), (11, ic i)] [⟨4, b4, [.int .i64 0, .int .i64 0, .slice none 0 0, .int .i64 0, .int .i64 0], 58⟩] (fun own u' => u = u' ∧ own = [] ∧ (x.members.find? fun m => m.key == key) = (x.members.drop i).find? fun m => m.key == key) e bx own u') (m := css.length) ⟨0, by omega, by omega, ?_⟩ ?_)
  · exact .mk ⟨rfl, rfl, rfl⟩
  rintro m e bx own u' ⟨i, hi, rfl, ⟨rfl, rfl, hs⟩⟩
  refine W_seq (W_reg ?_)
  simp only [r19_2, sx, Nat.reduceBEq, Nat.reduceAdd, Nat.reduceLeDiff, reduceCtorEq]
  refine W_seq (W_cnd rfl (fun hc => W_skip ?_) (fun hc => W_exit ?_))
  · have hlt : i < css.length := by simpa using hc
    have hlx : i < x.members.length := by omega
    obtain ⟨o, off, rfl, hr⟩ := hrow (by intro q; simp [q] at hlt)
    have hcell := SlC_at hr hlen hlt
    have hxi := hall.at_ hlt hlx
    obtain ⟨vj, heq, hj⟩ := id hxi
    rw [heq] at hcell hxi
    rw [find_drop hlx] at hs
    refine W_seq (W_blk ?_)
    refine W_seq (W_reg ?_)
    simp only [r19_3, r19_3a, r19_3b, r19_3c, sx, Nat.reduceBEq, Nat.reduceAdd, Nat.reduceLeDiff, reduceCtorEq]
    refine ⟨by omega, _, hcell.lrow, rfl, ?_⟩
    simp only [sx, Nat.reduceBEq, Nat.reduceAdd, Nat.reduceLeDiff, reduceCtorEq]
    intro b7
    refine ⟨hj.one, ?_⟩
    refine W_seq (W_reg ?_)
    simp only [r19_4, sx, Nat.reduceBEq, Nat.reduceAdd, Nat.reduceLeDiff, reduceCtorEq]
    refine W_cnd rfl (fun hb => ?_) (fun hb => W_skip ?_)
    · refine W_seq (W_reg ?_)
      simp only [r19_5, r19_5a, sx, Nat.reduceBEq, Nat.reduceAdd, Nat.reduceLeDiff, reduceCtorEq]
      refine CallW.u (copiedMember hxi) ?_
      rintro v own' u2 ⟨rfl, cs2, bs, rfl, rfl, hc2⟩ _
      have ha := all1_member hc2
      obtain ⟨v2, rfl, hv2⟩ := id hc2
      obtain ⟨sa, sn, sc, rfl⟩ := SlC.form hv2
      simp only [r19_5b, r19_5c, sx, Nat.reduceBEq, Nat.reduceAdd, Nat.reduceLeDiff, reduceCtorEq]
      refine W_ret (RetQ.out rfl ⟨⟨rfl, rfl⟩, trivial, trivial⟩ ⟨rfl, [ic x.members[i].key, ic x.members[i].joined, .slice sa sn sc, ic x.members[i].had, ic x.members[i].debt], bs, by simp, ?_, ?_⟩)
      · rw [hs, hb]; rfl
      · rw [hs, hb]; exact hc2
    · refine W_reg ?_
      simp only [r19_6, sx, Nat.reduceBEq, Nat.reduceAdd, Nat.reduceLeDiff, reduceCtorEq]
      rw [wrapS hlt hmax]
      refine ⟨_, by omega, i + 1, by omega, rfl, .mk ⟨rfl, rfl, by rw [hs, hb]; rfl⟩⟩
  · have hge : ¬ i < css.length := by simpa using hc
    rw [List.drop_eq_nil_of_le (by omega)] at hs
    refine W_seq (W_reg ?_)
    simp only [r19_7, r19_7a, r19_7b, mksV, sx, Nat.reduceBEq, Nat.reduceAdd, Nat.reduceLeDiff, reduceCtorEq]
    refine W_ret (RetQ.out rfl ⟨⟨rfl, rfl⟩, trivial, trivial⟩ ⟨rfl, [ic 0, ic 0, .slice none 0 0, ic 0, ic 0], [], rfl, ?_, ?_⟩)
    · rw [hs]; rfl
    · rw [hs]; exact zeroM_R _
theorem circle_look {cs : List Value} {x : State} {u : Mem} (key : Int) (hx : stateR (MU u) cs x) : Fn Tryz.prog 15 [.agg cs.toArray, ic key] [] u (FindQ circleR zeroC (x.circles.find? fun m => m.id == key) u) := by
  obtain ⟨vk, vc, vl, vv, rfl, hk, ⟨css, ⟨a, c, rfl, hmax, hcap, hrow, hlen⟩, hall⟩, hlo, hvo⟩ := hx
  have ko := hk.one; have lo := hlo.one; have vo := hvo.one
  have hl := hall.len
  refine fn15 fun cx hu => ?_
  refine W_seq (W_reg ?_)
  simp only [r15_0, r15_0a, r15_0b, sx, Nat.reduceBEq, Nat.reduceAdd, Nat.reduceLeDiff, reduceCtorEq]
  intro b2 b4
  refine W_seq ?_
  refine W_seq (W_reg ?_)
  simp only [r15_1, sx, Nat.reduceBEq, Nat.reduceAdd, Nat.reduceLeDiff, reduceCtorEq]
  refine W_blk (W_loop (fun m e bx own u' => ∃ i, i ≤ css.length ∧ m = css.length - i ∧ St [(1, ic key), (4, .pointer (some ⟨b4, 0, none⟩)), (9, .slice a css.length c), (10, ic css.length), (11, ic i)] [⟨4, b4, [.int .i64 0, .int .i64 0, .string ⟨#[]⟩, .int .i64 0, .int .i64 0, .slice none 0 0, .slice none 0 0, .slice none 0 0, .slice none 0 0, .slice none 0 0, .slice none 0 0, .slice none 0 0, .slice none 0 0, .int .i64 0, .bool false], 50⟩] (fun own u' => u = u' ∧ own = [] ∧ (x.circles.find? fun m => m.id == key) = (x.circles.drop i).find? fun m => m.id == key) e bx own u') (m := css.length) ⟨0, by omega, by omega, ?_⟩ ?_)
  · exact .mk ⟨rfl, rfl, rfl⟩
  rintro m e bx own u' ⟨i, hi, rfl, ⟨rfl, rfl, hs⟩⟩
  refine W_seq (W_reg ?_)
  simp only [r15_2, sx, Nat.reduceBEq, Nat.reduceAdd, Nat.reduceLeDiff, reduceCtorEq]
  refine W_seq (W_cnd rfl (fun hc => W_skip ?_) (fun hc => W_exit ?_))
  · have hlt : i < css.length := by simpa using hc
    have hlx : i < x.circles.length := by omega
    obtain ⟨o, off, rfl, hr⟩ := hrow (by intro q; simp [q] at hlt)
    have hcell := SlC_at hr hlen hlt
    have hxi := hall.at_ hlt hlx
    obtain ⟨vm, vp, vb, vt, vo, vu, vq, vc, heq, ht, hm, hp, hb_, htu, hpo, hou, hq, hcl⟩ := id hxi
    rw [heq] at hcell hxi
    rw [find_drop hlx] at hs
    refine W_seq (W_blk ?_)
    refine W_seq (W_reg ?_)
    simp only [r15_3, r15_3a, r15_3b, r15_3c, sx, Nat.reduceBEq, Nat.reduceAdd, Nat.reduceLeDiff, reduceCtorEq]
    refine ⟨by omega, _, hcell.lrow, rfl, ?_⟩
    simp only [sx, Nat.reduceBEq, Nat.reduceAdd, Nat.reduceLeDiff, reduceCtorEq]
    intro b7
    refine ⟨⟨hm.one, hp.one, hb_.one, htu.one, hpo.one, hou.one, hq.one, hcl.one⟩, ?_⟩
    refine W_seq (W_reg ?_)
    simp only [r15_4, sx, Nat.reduceBEq, Nat.reduceAdd, Nat.reduceLeDiff, reduceCtorEq]
    refine W_cnd rfl (fun hb => ?_) (fun hb => W_skip ?_)
    · refine W_seq (W_reg ?_)
      simp only [r15_5, r15_5a, sx, Nat.reduceBEq, Nat.reduceAdd, Nat.reduceLeDiff, reduceCtorEq]
      refine CallW.u (copied_c hxi) ?_
      rintro v own' u2 ⟨rfl, cs2, bs, rfl, rfl, hc2⟩ _
      have ha := all1_circle hc2
      obtain ⟨vm2, vp2, vb2, vt2, vo2, vu2, vq2, vc2, rfl, ht2, ⟨_, hm2, _⟩, hp2, hb2, htu2, hpo2, hou2, ⟨_, hq2, _⟩, ⟨_, hcl2, _⟩⟩ := id hc2
      obtain ⟨s1, s2, s3, rfl⟩ := hm2.form
      obtain ⟨p1, p2, p3, rfl⟩ := SlC.form hp2
      obtain ⟨d1, d2, d3, rfl⟩ := SlC.form hb2
      obtain ⟨t1, t2, t3, rfl⟩ := SlC.form htu2
      obtain ⟨o1, o2, o3, rfl⟩ := SlC.form hpo2
      obtain ⟨u1, u2_, u3, rfl⟩ := SlC.form hou2
      obtain ⟨q1, q2, q3, rfl⟩ := hq2.form
      obtain ⟨c1, c2, c3, rfl⟩ := hcl2.form
      simp only [r15_5b, r15_5c, sx, Nat.reduceBEq, Nat.reduceAdd, Nat.reduceLeDiff, reduceCtorEq]
      refine W_ret (RetQ.out rfl ⟨⟨rfl, rfl⟩, trivial, trivial⟩ ⟨rfl, [ic x.circles[i].id, ic x.circles[i].found, .string x.circles[i].text, ic x.circles[i].version, ic x.circles[i].law, .slice s1 s2 s3, .slice p1 p2 p3, .slice d1 d2 d3, .slice t1 t2 t3, .slice o1 o2 o3, .slice u1 u2_ u3, .slice q1 q2 q3, .slice c1 c2 c3, ic x.circles[i].fund, .bool x.circles[i].ended], bs, by simp, ?_, ?_⟩)
      · rw [hs, hb]; rfl
      · rw [hs, hb]; exact hc2
    · refine W_reg ?_
      simp only [r15_6, sx, Nat.reduceBEq, Nat.reduceAdd, Nat.reduceLeDiff, reduceCtorEq]
      rw [wrapS hlt hmax]
      refine ⟨_, by omega, i + 1, by omega, rfl, .mk ⟨rfl, rfl, by rw [hs, hb]; rfl⟩⟩
  · have hge : ¬ i < css.length := by simpa using hc
    rw [List.drop_eq_nil_of_le (by omega)] at hs
    refine W_seq (W_reg ?_)
    simp only [r15_7, r15_7a, r15_7b, mksV, sx, Nat.reduceBEq, Nat.reduceAdd, Nat.reduceLeDiff, reduceCtorEq]
    refine W_ret (RetQ.out rfl ⟨⟨rfl, rfl⟩, trivial, trivial⟩ ⟨rfl, [ic 0, ic 0, .string ⟨#[]⟩, ic 0, ic 0, .slice none 0 0, .slice none 0 0, .slice none 0 0, .slice none 0 0, .slice none 0 0, .slice none 0 0, .slice none 0 0, .slice none 0 0, ic 0, .bool false], [], rfl, ?_, ?_⟩)
    · rw [hs]; rfl
    · rw [hs]; exact zeroC_R _
end Go.Proofs.YtenmmfkgopffgaaGreatDoor
