/- Part 26 of the proofs that the program's StateBack and StateBalance return true (texts Xk Xl Sd joined): what its functions compute. -/
import Derived.Test.YtenmmfkgopffgaaGreatDoorMay
import Derived.Test.YtenmmfkgopffgaaGreatDoorMax
import Derived.Test.YtenmmfkgopffgaaGreatDoorMav
set_option linter.unusedVariables false
set_option linter.unusedSimpArgs false
set_option maxRecDepth 4000
set_option linter.unnecessarySimpa false
namespace Go.Proofs.YtenmmfkgopffgaaGreatDoor
open Go

theorem rproposal_c {b : Nat} {r : Rd} {u : Mem} (g : GM u) (hr : r.rest.length ≤ maxR) : Fn Tryz.prog 81 [.agg #[.pointer (some ⟨b, 0, none⟩)]] [RdB b r] u fun v own' u' => ∃ cs, v = .agg cs.toArray ∧ own' = [RdB b (rdProposal r).2] ∧ proposalR (MU u') cs (rdProposal r).1 := by
  refine fn81 fun cx hu => ?_
  refine W_seq (W_reg ?_)
  simp only [r81_0, r81_0a, sx, Nat.reduceBEq, Nat.reduceAdd, Nat.reduceLeDiff, reduceCtorEq]
  intro b1 b2
  refine W_gh (bx' := [⟨1, b1, [.pointer (some ⟨b, 0, none⟩)], 91⟩, ⟨2, b2, [.int .i64 0, .int .i64 0, .int .i64 0, .slice none 0 0, .int .i64 0], 63⟩]) (own' := [RdB b r]) (fun w i => i.perm (List.Perm.swap _ _ _)) ?_
  refine W_frzB fun u0 hle0 hb1 => ?_
  have g := g.mono hle0
  refine W_seq (W_drw (drawOK mixedP) ?_)
  simp only [WSD, A.wpD, r81_1, r81_1a, r81_1b, r81_1c, r81_1d, r81_1e, r81_1f, r81_1g, r81_1h, r81_1i, r81_1j, r81_1k, rdProposal, sx, Nat.reduceBEq, Nat.reduceAdd, Nat.reduceLeDiff, reduceCtorEq]
  refine ⟨[.pointer (some ⟨b, 0, none⟩)], .inl ⟨_, _, _, hb1, rfl⟩, rfl, ?_⟩
  refine ⟨[.pointer (some ⟨b, 0, none⟩)], .inl ⟨_, _, _, hb1, rfl⟩, rfl, ?_⟩
  refine ⟨[.pointer (some ⟨b, 0, none⟩)], .inl ⟨_, _, _, hb1, rfl⟩, rfl, ?_⟩
  simp only [WSD, A.wpD, sx, Nat.reduceBEq, Nat.reduceAdd, Nat.reduceLeDiff, reduceCtorEq]
  refine CallWD.own (rest := []) (rnum_c g hr) (List.Perm.refl _) ?_
  rintro v1 own' u1 ⟨rfl, rfl, rfl⟩ _
  have hr1 := Nat.le_trans ((ls_num r).1) hr
  have hi1 := rdNumber_i64 59 0 r
  have hi1 : i64 (rdNum r).1 := hi1
  generalize rdNum r = p1 at hr1 hi1 ⊢
  refine CallWD.own (rest := []) (rnum_c g hr1) (List.Perm.refl _) ?_
  rintro v2 own' u2 ⟨rfl, rfl, rfl⟩ _
  have hr2 := Nat.le_trans ((ls_num p1.2).1) hr1
  have hi2 := rdNumber_i64 59 0 p1.2
  have hi2 : i64 (rdNum p1.2).1 := hi2
  generalize rdNum p1.2 = p2 at hr2 hi2 ⊢
  refine CallWD.own (rest := []) (rnum_c g hr2) (List.Perm.refl _) ?_
  rintro v3 own' u3 ⟨rfl, rfl, rfl⟩ _
  have hr3 := Nat.le_trans ((ls_num p2.2).1) hr2
  have hi3 := rdNumber_i64 59 0 p2.2
  have hi3 : i64 (rdNum p2.2).1 := hi3
  generalize rdNum p2.2 = p3 at hr3 hi3 ⊢
  simp only [WSD, A.wpD, mksV, sx, Nat.reduceBEq, Nat.reduceAdd, Nat.reduceLeDiff, reduceCtorEq]
  intro b3
  refine W_row0 60 4 ?_
  refine W_seq (W_reg ?_)
  simp only [r81_2, r81_2a, r81_2b, sx, Nat.reduceBEq, Nat.reduceAdd, Nat.reduceLeDiff, reduceCtorEq]
  refine ⟨[.pointer (some ⟨b, 0, none⟩)], .inl ⟨_, _, _, hb1, rfl⟩, rfl, ?_⟩
  refine CallW.each (pre := [ic p1.1, ic p2.1, ic p3.1]) (post := [ic 0]) (R := (fun _ cs x => cs = voiceC x)) (one := rdVoice) g hr3 ls_voice (step116 g hb1) ?_
  intro v4 v' css u4 hk hall hle4
  refine W_frz fun u4' bs hle4' hrb hmb => ?_
  have hlen := each_len ls_voice p3.2
  have hr4 := Nat.le_trans (lw_each (fun r => (ls_voice r).1) p3.2) hr3
  have hS4 := SlF_of_row hrb hk (Nat.le_trans hlen (Nat.le_trans hr3 (by decide))) hall hmb
  clear hrb hall hlen
  have hle4 := mle_trans hle4 hle4'
  have g := g.mono hle4
  have hb1 := hle4 _ _ hb1
  generalize rdEach rdVoice p3.2 = p4 at hr4 hS4 ⊢
  obtain ⟨a4, c4, rfl, hm4⟩ := hS4.formL
  refine W_seq (W_reg ?_)
  simp only [r81_3, r81_3a, r81_3b, r81_3c, r81_3d, sx, Nat.reduceBEq, Nat.reduceAdd, Nat.reduceLeDiff, reduceCtorEq]
  refine ⟨[.pointer (some ⟨b, 0, none⟩)], .inl ⟨_, _, _, hb1, rfl⟩, rfl, ?_⟩
  simp only [sx, Nat.reduceBEq, Nat.reduceAdd, Nat.reduceLeDiff, reduceCtorEq]
  refine CallW.own (rest := []) (rnum_c g hr4) (List.Perm.refl _) ?_
  rintro v5 own' u5 ⟨rfl, rfl, rfl⟩ _
  have hr5 := Nat.le_trans ((ls_num p4.2).1) hr4
  have hi5 := rdNumber_i64 59 0 p4.2
  have hi5 : i64 (rdNum p4.2).1 := hi5
  generalize rdNum p4.2 = p5 at hr5 hi5 ⊢
  simp only [sx, Nat.reduceBEq, Nat.reduceAdd, Nat.reduceLeDiff, reduceCtorEq]
  refine W_seq (W_reg ?_)
  simp only [r81_4, r81_4a, sx, Nat.reduceBEq, Nat.reduceAdd, Nat.reduceLeDiff, reduceCtorEq]
  refine W_ret (RetQ.out rfl ⟨rfl, rfl⟩ ⟨_, rfl, rfl, ⟨_, rfl, hS4⟩⟩)
theorem step75 {b0 b1 b : Nat} {u0 : Mem} {x0 x1 x2 x3 x4 y6 y7 y8 y9 y10 y11 y12 y13 y14 : Value} (g : GM u0) (hb1 : u0 b1 = some (.cells #[.pointer (some ⟨b, 0, none⟩)] 91 (0, 0))) :
    Step 75 [.pointer (some ⟨b0, 0, none⟩), .pointer (some ⟨b1, 0, none⟩)] b rdMember (STl b0 50 [x0, x1, x2, x3, x4] [y6, y7, y8, y9, y10, y11, y12, y13, y14] 58 5 memberR) u0 := by
  rintro acc own u r hle ⟨v, css, rfl, hk, hall⟩ hacc hr0 hr
  have g := g.mono hle
  have hb1 := hle _ _ hb1
  unfold maxR at hacc
  refine fn75 fun cx hu => ?_
  refine W_gh (bx' := [⟨0, b0, [x0, x1, x2, x3, x4, v, y6, y7, y8, y9, y10, y11, y12, y13, y14], 50⟩]) (own' := [Row 58 5 v acc.length css.flatten, RdB b r]) (fun w i => i) ?_
  refine W_drw (drawOK mixedP) ?_
  simp only [WSD, A.wpD, r75_0, r75_0a, r75_0b, r75_0c, r75_0d, r75_0e, r75_0f, sx, Nat.reduceBEq, Nat.reduceAdd, Nat.reduceLeDiff, reduceCtorEq]
  refine ⟨[.pointer (some ⟨b, 0, none⟩)], .inl ⟨_, _, _, hb1, rfl⟩, rfl, ?_⟩
  refine CallWD.own (rest := [Row 58 5 v acc.length css.flatten]) (rmember_c g hr) (List.Perm.swap _ _ _) ?_
  rintro v1 own' u1 ⟨cs, rfl, rfl, hm⟩ hle1
  have hme := hm
  generalize rdMember r = p1 at hm hme ⊢
  obtain ⟨vj, rfl, hj⟩ := hme
  obtain ⟨aj, cj, rfl, _⟩ := hj.formL
  refine .inl ⟨by simp [lenAll, vcells], fun blk u9 hle9 hu9 => ?_⟩
  simp only [WSD, A.wpD, sx, Nat.reduceBEq, Nat.reduceAdd, Nat.reduceLeDiff, reduceCtorEq]
  refine ⟨acc.length, css.flatten, [RdB b p1.2], [ic p1.1.key, ic p1.1.joined, .slice aj p1.1.backs.length cj, ic p1.1.had, ic p1.1.debt], List.Perm.swap _ _ _, by simp, fun _ => ⟨blk, 0, rfl, _, _, _, hu9, by simp [flatC, vcells]⟩, by simp [all1, Value.oneCell'], by omega, by omega, ?_⟩
  rintro v' ⟨a', c', rfl⟩
  simp only [WSD, A.wpD, sx, Nat.reduceBEq, Nat.reduceAdd, Nat.reduceLeDiff, reduceCtorEq]
  refine RetQ.outG (own' := [Blk b0 (.cells #[x0, x1, x2, x3, x4, .slice a' (acc.length + 1) c', y6, y7, y8, y9, y10, y11, y12, y13, y14] 50 (0, 0)), Row 58 5 (.slice a' (acc.length + 1) c') (acc.length + 1) (css.flatten ++ [ic p1.1.key, ic p1.1.joined, .slice aj p1.1.backs.length cj, ic p1.1.had, ic p1.1.debt]), RdB b p1.2]) rfl trivial (fun w i => i) ⟨[_, _], rfl, .slice a' (acc.length + 1) c', css ++ [[ic p1.1.key, ic p1.1.joined, .slice aj p1.1.backs.length cj, ic p1.1.had, ic p1.1.debt]], ?_, ?_, ?_⟩
  · simp
  · intro cs hcs
    rcases List.mem_append.1 hcs with h | h
    · exact hk cs h
    · simp only [List.mem_singleton] at h
      subst h
      rfl
  · exact ((hall.mono fun _ _ q => memberR.mono q (mpl_mu (mle_trans hle1 hle9))).app (hm.mono (mpl_mu hle9)))
theorem step80 {b0 b1 b : Nat} {u0 : Mem} {x0 x1 x2 x3 x4 x5 x6 x7 x8 x9 x10 y12 y13 y14 : Value} (g : GM u0) (hb1 : u0 b1 = some (.cells #[.pointer (some ⟨b, 0, none⟩)] 91 (0, 0))) :
    Step 80 [.pointer (some ⟨b0, 0, none⟩), .pointer (some ⟨b1, 0, none⟩)] b rdProposal (STl b0 50 [x0, x1, x2, x3, x4, x5, x6, x7, x8, x9, x10] [y12, y13, y14] 63 5 proposalR) u0 := by
  rintro acc own u r hle ⟨v, css, rfl, hk, hall⟩ hacc hr0 hr
  have g := g.mono hle
  have hb1 := hle _ _ hb1
  unfold maxR at hacc
  refine fn80 fun cx hu => ?_
  refine W_gh (bx' := [⟨0, b0, [x0, x1, x2, x3, x4, x5, x6, x7, x8, x9, x10, v, y12, y13, y14], 50⟩]) (own' := [Row 63 5 v acc.length css.flatten, RdB b r]) (fun w i => i) ?_
  refine W_drw (drawOK mixedP) ?_
  simp only [WSD, A.wpD, r80_0, r80_0a, r80_0b, r80_0c, r80_0d, r80_0e, r80_0f, sx, Nat.reduceBEq, Nat.reduceAdd, Nat.reduceLeDiff, reduceCtorEq]
  refine ⟨[.pointer (some ⟨b, 0, none⟩)], .inl ⟨_, _, _, hb1, rfl⟩, rfl, ?_⟩
  refine CallWD.own (rest := [Row 63 5 v acc.length css.flatten]) (rproposal_c g hr) (List.Perm.swap _ _ _) ?_
  rintro v1 own' u1 ⟨cs, rfl, rfl, hm⟩ hle1
  have hme := hm
  generalize rdProposal r = p1 at hm hme ⊢
  obtain ⟨vj, rfl, hj⟩ := hme
  obtain ⟨aj, cj, rfl, _⟩ := hj.formL
  refine .inl ⟨by simp [lenAll, vcells], fun blk u9 hle9 hu9 => ?_⟩
  simp only [WSD, A.wpD, sx, Nat.reduceBEq, Nat.reduceAdd, Nat.reduceLeDiff, reduceCtorEq]
  refine ⟨acc.length, css.flatten, [RdB b p1.2], [ic p1.1.mark, ic p1.1.day, ic p1.1.kind, .slice aj p1.1.voices.length cj, ic p1.1.done], List.Perm.swap _ _ _, by simp, fun _ => ⟨blk, 0, rfl, _, _, _, hu9, by simp [flatC, vcells]⟩, by simp [all1, Value.oneCell'], by omega, by omega, ?_⟩
  rintro v' ⟨a', c', rfl⟩
  simp only [WSD, A.wpD, sx, Nat.reduceBEq, Nat.reduceAdd, Nat.reduceLeDiff, reduceCtorEq]
  refine RetQ.outG (own' := [Blk b0 (.cells #[x0, x1, x2, x3, x4, x5, x6, x7, x8, x9, x10, .slice a' (acc.length + 1) c', y12, y13, y14] 50 (0, 0)), Row 63 5 (.slice a' (acc.length + 1) c') (acc.length + 1) (css.flatten ++ [ic p1.1.mark, ic p1.1.day, ic p1.1.kind, .slice aj p1.1.voices.length cj, ic p1.1.done]), RdB b p1.2]) rfl trivial (fun w i => i) ⟨[_, _], rfl, .slice a' (acc.length + 1) c', css ++ [[ic p1.1.mark, ic p1.1.day, ic p1.1.kind, .slice aj p1.1.voices.length cj, ic p1.1.done]], ?_, ?_, ?_⟩
  · simp
  · intro cs hcs
    rcases List.mem_append.1 hcs with h | h
    · exact hk cs h
    · simp only [List.mem_singleton] at h
      subst h
      rfl
  · exact ((hall.mono fun _ _ q => proposalR.mono q (mpl_mu (mle_trans hle1 hle9))).app (hm.mono (mpl_mu hle9)))
theorem step82 {b0 b1 b : Nat} {u0 : Mem} {x0 x1 x2 x3 x4 x5 x6 x7 x8 x9 x10 x11 y13 y14 : Value} (g : GM u0) (hb1 : u0 b1 = some (.cells #[.pointer (some ⟨b, 0, none⟩)] 91 (0, 0))) :
    Step 82 [.pointer (some ⟨b0, 0, none⟩), .pointer (some ⟨b1, 0, none⟩)] b rdClaim (STl b0 50 [x0, x1, x2, x3, x4, x5, x6, x7, x8, x9, x10, x11] [y13, y14] 65 12 claimR) u0 := by
  rintro acc own u r hle ⟨v, css, rfl, hk, hall⟩ hacc hr0 hr
  have g := g.mono hle
  have hb1 := hle _ _ hb1
  unfold maxR at hacc
  refine fn82 fun cx hu => ?_
  refine W_gh (bx' := [⟨0, b0, [x0, x1, x2, x3, x4, x5, x6, x7, x8, x9, x10, x11, v, y13, y14], 50⟩]) (own' := [Row 65 12 v acc.length css.flatten, RdB b r]) (fun w i => i) ?_
  refine W_drw (drawOK mixedP) ?_
  simp only [WSD, A.wpD, r82_0, r82_0a, r82_0b, r82_0c, r82_0d, r82_0e, r82_0f, sx, Nat.reduceBEq, Nat.reduceAdd, Nat.reduceLeDiff, reduceCtorEq]
  refine ⟨[.pointer (some ⟨b, 0, none⟩)], .inl ⟨_, _, _, hb1, rfl⟩, rfl, ?_⟩
  refine CallWD.own (rest := [Row 65 12 v acc.length css.flatten]) (rclaim_c g hr) (List.Perm.swap _ _ _) ?_
  rintro v1 own' u1 ⟨cs, rfl, rfl, hm⟩ hle1
  have hme := hm
  generalize rdClaim r = p1 at hm hme ⊢
  obtain ⟨vj, vw, rfl, hj, hw⟩ := hme
  obtain ⟨aj, cj, rfl, _⟩ := hj.formL
  obtain ⟨aw, cw, rfl, _⟩ := hw.formL
  refine .inl ⟨by simp [lenAll, vcells], fun blk u9 hle9 hu9 => ?_⟩
  simp only [WSD, A.wpD, sx, Nat.reduceBEq, Nat.reduceAdd, Nat.reduceLeDiff, reduceCtorEq]
  refine ⟨acc.length, css.flatten, [RdB b p1.2], [ic p1.1.mark, ic p1.1.circle, ic p1.1.who, ic p1.1.n, ic p1.1.event, ic p1.1.day, ic p1.1.proofs, .slice aj p1.1.jury.length cj, .slice aw p1.1.again.length cw, ic p1.1.state, ic p1.1.grant, ic p1.1.from_], List.Perm.swap _ _ _, by simp, fun _ => ⟨blk, 0, rfl, _, _, _, hu9, by simp [flatC, vcells]⟩, by simp [all1, Value.oneCell'], by omega, by omega, ?_⟩
  rintro v' ⟨a', c', rfl⟩
  simp only [WSD, A.wpD, sx, Nat.reduceBEq, Nat.reduceAdd, Nat.reduceLeDiff, reduceCtorEq]
  refine RetQ.outG (own' := [Blk b0 (.cells #[x0, x1, x2, x3, x4, x5, x6, x7, x8, x9, x10, x11, .slice a' (acc.length + 1) c', y13, y14] 50 (0, 0)), Row 65 12 (.slice a' (acc.length + 1) c') (acc.length + 1) (css.flatten ++ [ic p1.1.mark, ic p1.1.circle, ic p1.1.who, ic p1.1.n, ic p1.1.event, ic p1.1.day, ic p1.1.proofs, .slice aj p1.1.jury.length cj, .slice aw p1.1.again.length cw, ic p1.1.state, ic p1.1.grant, ic p1.1.from_]), RdB b p1.2]) rfl trivial (fun w i => i) ⟨[_, _], rfl, .slice a' (acc.length + 1) c', css ++ [[ic p1.1.mark, ic p1.1.circle, ic p1.1.who, ic p1.1.n, ic p1.1.event, ic p1.1.day, ic p1.1.proofs, .slice aj p1.1.jury.length cj, .slice aw p1.1.again.length cw, ic p1.1.state, ic p1.1.grant, ic p1.1.from_]], ?_, ?_, ?_⟩
  · simp
  · intro cs hcs
    rcases List.mem_append.1 hcs with h | h
    · exact hk cs h
    · simp only [List.mem_singleton] at h
      subst h
      rfl
  · exact ((hall.mono fun _ _ q => claimR.mono q (mpl_mu (mle_trans hle1 hle9))).app (hm.mono (mpl_mu hle9)))
theorem text_len (r : Rd) : (rdText r).1.length ≤ r.rest.length := by
  have h1 := (num_less 58 0 r).1
  unfold rdText
  generalize rdNumber 58 0 r = p at *
  obtain ⟨n, r1⟩ := p
  simp only at h1 ⊢
  cases decide ((r1.rest.length : Int) < n)
  · simp only [cond_false]
    cases (rdClose 44 ⟨r1.rest.drop n.toNat, r1.bad⟩).bad
    · simp only [cond_false, List.length_take]; omega
    · simp
  · simp
set_option maxHeartbeats 2000000 in
theorem rcircle_c {b : Nat} {r : Rd} {u : Mem} (g : GM u) (hr : r.rest.length ≤ maxR) : Fn Tryz.prog 33 [.agg #[.pointer (some ⟨b, 0, none⟩)]] [RdB b r] u fun v own' u' => ∃ cs, v = .agg cs.toArray ∧ own' = [RdB b (rdCircle r).2] ∧ circleR (MU u') cs (rdCircle r).1 := by
  refine fn33 fun cx hu => ?_
  refine W_seq (W_reg ?_)
  simp only [r33_0, r33_0a, sx, Nat.reduceBEq, Nat.reduceAdd, Nat.reduceLeDiff, reduceCtorEq]
  intro b1 b2
  refine W_gh (bx' := [⟨1, b1, [.pointer (some ⟨b, 0, none⟩)], 91⟩, ⟨2, b2, [.int .i64 0, .int .i64 0, .string ⟨#[]⟩, .int .i64 0, .int .i64 0, .slice none 0 0, .slice none 0 0, .slice none 0 0, .slice none 0 0, .slice none 0 0, .slice none 0 0, .slice none 0 0, .slice none 0 0, .int .i64 0, .bool false], 50⟩]) (own' := [RdB b r]) (fun w i => i.perm (List.Perm.swap _ _ _)) ?_
  refine W_frzB fun u0 hle0 hb1 => ?_
  have g := g.mono hle0
  refine W_seq (W_drw (drawOK mixedP) ?_)
  simp only [WSD, A.wpD, r33_1, r33_1a, r33_1b, r33_1c, r33_1d, r33_1e, r33_1f, r33_1g, r33_1h, r33_1i, r33_1j, r33_1k, r33_1l, r33_1m, r33_1n, r33_1o, r33_1p, r33_1q, rdCircle, rdFlag, sx, Nat.reduceBEq, Nat.reduceAdd, Nat.reduceLeDiff, reduceCtorEq]
  refine ⟨[.pointer (some ⟨b, 0, none⟩)], .inl ⟨_, _, _, hb1, rfl⟩, rfl, ?_⟩
  refine ⟨[.pointer (some ⟨b, 0, none⟩)], .inl ⟨_, _, _, hb1, rfl⟩, rfl, ?_⟩
  refine ⟨[.pointer (some ⟨b, 0, none⟩)], .inl ⟨_, _, _, hb1, rfl⟩, rfl, ?_⟩
  refine ⟨[.pointer (some ⟨b, 0, none⟩)], .inl ⟨_, _, _, hb1, rfl⟩, rfl, ?_⟩
  refine ⟨[.pointer (some ⟨b, 0, none⟩)], .inl ⟨_, _, _, hb1, rfl⟩, rfl, ?_⟩
  simp only [WSD, A.wpD, sx, Nat.reduceBEq, Nat.reduceAdd, Nat.reduceLeDiff, reduceCtorEq]
  refine CallWD.own (rest := []) (rnum_c g hr) (List.Perm.refl _) ?_
  rintro v1 own' u1 ⟨rfl, rfl, rfl⟩ _
  have hr1 := Nat.le_trans ((ls_num r).1) hr
  have hi1 := rdNumber_i64 59 0 r
  have hi1 : i64 (rdNum r).1 := hi1
  generalize rdNum r = p1 at hr1 hi1 ⊢
  refine CallWD.own (rest := []) (rnum_c g hr1) (List.Perm.refl _) ?_
  rintro v2 own' u2 ⟨rfl, rfl, rfl⟩ _
  have hr2 := Nat.le_trans ((ls_num p1.2).1) hr1
  have hi2 := rdNumber_i64 59 0 p1.2
  have hi2 : i64 (rdNum p1.2).1 := hi2
  generalize rdNum p1.2 = p2 at hr2 hi2 ⊢
  have hlt := text_len p2.2
  refine CallWD.own (rest := []) (rtext_c g hr2) (List.Perm.refl _) ?_
  rintro v3 own' u3 ⟨rfl, rfl, rfl⟩ _
  have hr3 := Nat.le_trans (lw_text p2.2) hr2
  generalize rdText p2.2 = p3 at hr3 hlt ⊢
  have hlt : (strBA p3.1).size ≤ maxN := by rw [strBA_size]; exact Nat.le_trans hlt (Nat.le_trans hr2 (by decide))
  refine CallWD.own (rest := []) (rnum_c g hr3) (List.Perm.refl _) ?_
  rintro v4 own' u4 ⟨rfl, rfl, rfl⟩ _
  have hr4 := Nat.le_trans ((ls_num p3.2).1) hr3
  have hi4 := rdNumber_i64 59 0 p3.2
  have hi4 : i64 (rdNum p3.2).1 := hi4
  generalize rdNum p3.2 = p4 at hr4 hi4 ⊢
  refine CallWD.own (rest := []) (rnum_c g hr4) (List.Perm.refl _) ?_
  rintro v5 own' u5 ⟨rfl, rfl, rfl⟩ _
  have hr5 := Nat.le_trans ((ls_num p4.2).1) hr4
  have hi5 := rdNumber_i64 59 0 p4.2
  have hi5 : i64 (rdNum p4.2).1 := hi5
  generalize rdNum p4.2 = p5 at hr5 hi5 ⊢
  simp only [WSD, A.wpD, mksV, sx, Nat.reduceBEq, Nat.reduceAdd, Nat.reduceLeDiff, reduceCtorEq]
  intro b3
  refine W_row0 58 5 ?_
  refine W_seq (W_reg ?_)
  simp only [r33_2, r33_2a, r33_2b, sx, Nat.reduceBEq, Nat.reduceAdd, Nat.reduceLeDiff, reduceCtorEq]
  refine ⟨[.pointer (some ⟨b, 0, none⟩)], .inl ⟨_, _, _, hb1, rfl⟩, rfl, ?_⟩
  refine CallW.each (pre := [ic p1.1, ic p2.1, sv p3.1, ic p4.1, ic p5.1]) (post := [.slice none 0 0, .slice none 0 0, .slice none 0 0, .slice none 0 0, .slice none 0 0, .slice none 0 0, .slice none 0 0, ic 0, .bool false]) (R := memberR) (one := rdMember) g hr5 ls_member (step75 g hb1) ?_
  intro v6 v' css u6 hk hall hle6
  refine W_frz fun u6' bs hle6' hrb hmb => ?_
  have hlen := each_len ls_member p5.2
  have hr6 := Nat.le_trans (lw_each (fun r => (ls_member r).1) p5.2) hr5
  have hS6 := Sl_of_row (R := memberR) (fun _ _ _ _ => memberR.mono) hrb hk (Nat.le_trans hlen (Nat.le_trans hr5 (by decide))) hall hle6' hmb
  clear hrb hall hlen
  have hle6 := mle_trans hle6 hle6'
  have g := g.mono hle6
  have hb1 := hle6 _ _ hb1
  generalize rdEach rdMember p5.2 = p6 at hr6 hS6 ⊢
  obtain ⟨a6, c6, rfl, hm6⟩ := hS6.formL
  refine W_row0 113 5 ?_
  refine W_seq (W_reg ?_)
  simp only [r33_3, r33_3a, r33_3b, sx, Nat.reduceBEq, Nat.reduceAdd, Nat.reduceLeDiff, reduceCtorEq]
  refine ⟨[.pointer (some ⟨b, 0, none⟩)], .inl ⟨_, _, _, hb1, rfl⟩, rfl, ?_⟩
  refine CallW.each (pre := [ic p1.1, ic p2.1, sv p3.1, ic p4.1, ic p5.1, .slice a6 p6.1.length c6]) (post := [.slice none 0 0, .slice none 0 0, .slice none 0 0, .slice none 0 0, .slice none 0 0, .slice none 0 0, ic 0, .bool false]) (R := (fun _ cs x => cs = paidC x)) (one := rdPaid) g hr6 ls_paid (step77 g hb1) ?_
  intro v7 v' css u7 hk hall hle7
  refine W_frz fun u7' bs hle7' hrb hmb => ?_
  have hlen := each_len ls_paid p6.2
  have hr7 := Nat.le_trans (lw_each (fun r => (ls_paid r).1) p6.2) hr6
  have hS7 := SlF_of_row hrb hk (Nat.le_trans hlen (Nat.le_trans hr6 (by decide))) hall hmb
  clear hrb hall hlen
  have hle7 := mle_trans hle7 hle7'
  have g := g.mono hle7
  have hb1 := hle7 _ _ hb1
  generalize rdEach rdPaid p6.2 = p7 at hr7 hS7 ⊢
  obtain ⟨a7, c7, rfl, hm7⟩ := hS7.formL
  have hS6 := Sl.mono (R := memberR) (fun _ _ _ _ => memberR.mono) hS6 (mpl_mu hle7)
  refine W_row0 115 4 ?_
  refine W_seq (W_reg ?_)
  simp only [r33_4, r33_4a, r33_4b, sx, Nat.reduceBEq, Nat.reduceAdd, Nat.reduceLeDiff, reduceCtorEq]
  refine ⟨[.pointer (some ⟨b, 0, none⟩)], .inl ⟨_, _, _, hb1, rfl⟩, rfl, ?_⟩
  refine CallW.each (pre := [ic p1.1, ic p2.1, sv p3.1, ic p4.1, ic p5.1, .slice a6 p6.1.length c6, .slice a7 p7.1.length c7]) (post := [.slice none 0 0, .slice none 0 0, .slice none 0 0, .slice none 0 0, .slice none 0 0, ic 0, .bool false]) (R := (fun _ cs x => cs = bidC x)) (one := rdBid) g hr7 ls_bid (step78 g hb1) ?_
  intro v8 v' css u8 hk hall hle8
  refine W_frz fun u8' bs hle8' hrb hmb => ?_
  have hlen := each_len ls_bid p7.2
  have hr8 := Nat.le_trans (lw_each (fun r => (ls_bid r).1) p7.2) hr7
  have hS8 := SlF_of_row hrb hk (Nat.le_trans hlen (Nat.le_trans hr7 (by decide))) hall hmb
  clear hrb hall hlen
  have hle8 := mle_trans hle8 hle8'
  have g := g.mono hle8
  have hb1 := hle8 _ _ hb1
  generalize rdEach rdBid p7.2 = p8 at hr8 hS8 ⊢
  obtain ⟨a8, c8, rfl, hm8⟩ := hS8.formL
  have hS6 := Sl.mono (R := memberR) (fun _ _ _ _ => memberR.mono) hS6 (mpl_mu hle8)
  have hS7 := hS7.mono (mpl_mu hle8)
  refine W_row0 3 1 ?_
  refine W_seq (W_reg ?_)
  simp only [r33_5, r33_5a, r33_5b, sx, Nat.reduceBEq, Nat.reduceAdd, Nat.reduceLeDiff, reduceCtorEq]
  refine ⟨[.pointer (some ⟨b, 0, none⟩)], .inl ⟨_, _, _, hb1, rfl⟩, rfl, ?_⟩
  refine CallW.each (pre := [ic p1.1, ic p2.1, sv p3.1, ic p4.1, ic p5.1, .slice a6 p6.1.length c6, .slice a7 p7.1.length c7, .slice a8 p8.1.length c8]) (post := [.slice none 0 0, .slice none 0 0, .slice none 0 0, .slice none 0 0, ic 0, .bool false]) (R := (fun _ cs x => cs = i1 x)) (one := rdInt) g hr8 ls_int (step79 g hb1) ?_
  intro v9 v' css u9 hk hall hle9
  refine W_frz fun u9' bs hle9' hrb hmb => ?_
  have hlen := each_len ls_int p8.2
  have hr9 := Nat.le_trans (lw_each (fun r => (ls_int r).1) p8.2) hr8
  have hS9 := SlF_of_row hrb hk (Nat.le_trans hlen (Nat.le_trans hr8 (by decide))) hall hmb
  clear hrb hall hlen
  have hle9 := mle_trans hle9 hle9'
  have g := g.mono hle9
  have hb1 := hle9 _ _ hb1
  generalize rdEach rdInt p8.2 = p9 at hr9 hS9 ⊢
  obtain ⟨a9, c9, rfl, hm9⟩ := hS9.formL
  have hS6 := Sl.mono (R := memberR) (fun _ _ _ _ => memberR.mono) hS6 (mpl_mu hle9)
  have hS7 := hS7.mono (mpl_mu hle9)
  have hS8 := hS8.mono (mpl_mu hle9)
  refine W_seq (W_drw (drawOK mixedP) ?_)
  simp only [WSD, A.wpD, r33_6, r33_6a, r33_6b, r33_6c, r33_6d, r33_6e, r33_6f, r33_6g, r33_6h, r33_6i, sx, Nat.reduceBEq, Nat.reduceAdd, Nat.reduceLeDiff, reduceCtorEq]
  refine ⟨[.pointer (some ⟨b, 0, none⟩)], .inl ⟨_, _, _, hb1, rfl⟩, rfl, ?_⟩
  refine ⟨[.pointer (some ⟨b, 0, none⟩)], .inl ⟨_, _, _, hb1, rfl⟩, rfl, ?_⟩
  refine CallWD.own (rest := []) (rnums g hr9) (List.Perm.refl _) ?_
  rintro v10 own' u10 ⟨rfl, hv10⟩ hle10
  have g := g.mono hle10
  obtain ⟨a10, c10, rfl, hm10⟩ := hv10.formL
  have hr10 := Nat.le_trans (lw_nums p9.2) hr9
  generalize rdNums p9.2 = p10 at hr10 hv10 hm10 ⊢
  have hS6 := Sl.mono (R := memberR) (fun _ _ _ _ => memberR.mono) hS6 (mpl_mu hle10)
  have hS7 := hS7.mono (mpl_mu hle10)
  have hS8 := hS8.mono (mpl_mu hle10)
  have hS9 := hS9.mono (mpl_mu hle10)
  have hb1 := hle10 _ _ hb1
  simp only [WSD, A.wpD, sx, Nat.reduceBEq, Nat.reduceAdd, Nat.reduceLeDiff, reduceCtorEq]
  refine CallWD.own (rest := []) (rnums g hr10) (List.Perm.refl _) ?_
  rintro v11 own' u11 ⟨rfl, hv11⟩ hle11
  have g := g.mono hle11
  obtain ⟨a11, c11, rfl, hm11⟩ := hv11.formL
  have hr11 := Nat.le_trans (lw_nums p10.2) hr10
  generalize rdNums p10.2 = p11 at hr11 hv11 hm11 ⊢
  have hS6 := Sl.mono (R := memberR) (fun _ _ _ _ => memberR.mono) hS6 (mpl_mu hle11)
  have hS7 := hS7.mono (mpl_mu hle11)
  have hS8 := hS8.mono (mpl_mu hle11)
  have hS9 := hS9.mono (mpl_mu hle11)
  have hv10 := hv10.mono (mpl_mu hle11)
  have hb1 := hle11 _ _ hb1
  simp only [WSD, A.wpD, sx, Nat.reduceBEq, Nat.reduceAdd, Nat.reduceLeDiff, reduceCtorEq]
  refine W_row0 63 5 ?_
  refine W_seq (W_reg ?_)
  simp only [r33_7, r33_7a, r33_7b, sx, Nat.reduceBEq, Nat.reduceAdd, Nat.reduceLeDiff, reduceCtorEq]
  refine ⟨[.pointer (some ⟨b, 0, none⟩)], .inl ⟨_, _, _, hb1, rfl⟩, rfl, ?_⟩
  refine CallW.each (pre := [ic p1.1, ic p2.1, sv p3.1, ic p4.1, ic p5.1, .slice a6 p6.1.length c6, .slice a7 p7.1.length c7, .slice a8 p8.1.length c8, .slice a9 p9.1.length c9, .slice a10 p10.1.length c10, .slice a11 p11.1.length c11]) (post := [.slice none 0 0, ic 0, .bool false]) (R := proposalR) (one := rdProposal) g hr11 ls_proposal (step80 g hb1) ?_
  intro v12 v' css u12 hk hall hle12
  refine W_frz fun u12' bs hle12' hrb hmb => ?_
  have hlen := each_len ls_proposal p11.2
  have hr12 := Nat.le_trans (lw_each (fun r => (ls_proposal r).1) p11.2) hr11
  have hS12 := Sl_of_row (R := proposalR) (fun _ _ _ _ => proposalR.mono) hrb hk (Nat.le_trans hlen (Nat.le_trans hr11 (by decide))) hall hle12' hmb
  clear hrb hall hlen
  have hle12 := mle_trans hle12 hle12'
  have g := g.mono hle12
  have hb1 := hle12 _ _ hb1
  generalize rdEach rdProposal p11.2 = p12 at hr12 hS12 ⊢
  obtain ⟨a12, c12, rfl, hm12⟩ := hS12.formL
  have hS6 := Sl.mono (R := memberR) (fun _ _ _ _ => memberR.mono) hS6 (mpl_mu hle12)
  have hS7 := hS7.mono (mpl_mu hle12)
  have hS8 := hS8.mono (mpl_mu hle12)
  have hS9 := hS9.mono (mpl_mu hle12)
  have hv10 := hv10.mono (mpl_mu hle12)
  have hv11 := hv11.mono (mpl_mu hle12)
  refine W_row0 65 12 ?_
  refine W_seq (W_reg ?_)
  simp only [r33_8, r33_8a, r33_8b, sx, Nat.reduceBEq, Nat.reduceAdd, Nat.reduceLeDiff, reduceCtorEq]
  refine ⟨[.pointer (some ⟨b, 0, none⟩)], .inl ⟨_, _, _, hb1, rfl⟩, rfl, ?_⟩
  refine CallW.each (pre := [ic p1.1, ic p2.1, sv p3.1, ic p4.1, ic p5.1, .slice a6 p6.1.length c6, .slice a7 p7.1.length c7, .slice a8 p8.1.length c8, .slice a9 p9.1.length c9, .slice a10 p10.1.length c10, .slice a11 p11.1.length c11, .slice a12 p12.1.length c12]) (post := [ic 0, .bool false]) (R := claimR) (one := rdClaim) g hr12 ls_claim (step82 g hb1) ?_
  intro v13 v' css u13 hk hall hle13
  refine W_frz fun u13' bs hle13' hrb hmb => ?_
  have hlen := each_len ls_claim p12.2
  have hr13 := Nat.le_trans (lw_each (fun r => (ls_claim r).1) p12.2) hr12
  have hS13 := Sl_of_row (R := claimR) (fun _ _ _ _ => claimR.mono) hrb hk (Nat.le_trans hlen (Nat.le_trans hr12 (by decide))) hall hle13' hmb
  clear hrb hall hlen
  have hle13 := mle_trans hle13 hle13'
  have g := g.mono hle13
  have hb1 := hle13 _ _ hb1
  generalize rdEach rdClaim p12.2 = p13 at hr13 hS13 ⊢
  obtain ⟨a13, c13, rfl, hm13⟩ := hS13.formL
  have hS6 := Sl.mono (R := memberR) (fun _ _ _ _ => memberR.mono) hS6 (mpl_mu hle13)
  have hS7 := hS7.mono (mpl_mu hle13)
  have hS8 := hS8.mono (mpl_mu hle13)
  have hS9 := hS9.mono (mpl_mu hle13)
  have hv10 := hv10.mono (mpl_mu hle13)
  have hv11 := hv11.mono (mpl_mu hle13)
  have hS12 := Sl.mono (R := proposalR) (fun _ _ _ _ => proposalR.mono) hS12 (mpl_mu hle13)
  refine W_seq (W_drw (drawOK mixedP) ?_)
  simp only [WSD, A.wpD, r33_9, r33_9a, r33_9b, r33_9c, r33_9d, r33_9e, r33_9f, r33_9g, r33_9h, r33_9i, r33_9j, sx, Nat.reduceBEq, Nat.reduceAdd, Nat.reduceLeDiff, reduceCtorEq]
  refine ⟨[.pointer (some ⟨b, 0, none⟩)], .inl ⟨_, _, _, hb1, rfl⟩, rfl, ?_⟩
  refine ⟨[.pointer (some ⟨b, 0, none⟩)], .inl ⟨_, _, _, hb1, rfl⟩, rfl, ?_⟩
  refine CallWD.own (rest := []) (rint_c g hr13) (List.Perm.refl _) ?_
  rintro v14 own' u14 ⟨rfl, rfl, rfl⟩ _
  have hr14 := Nat.le_trans ((ls_int p13.2).1) hr13
  have hi14 := rdNumber_i64 59 i64min p13.2
  have hi14 : i64 (rdInt p13.2).1 := hi14
  generalize rdInt p13.2 = p14 at hr14 hi14 ⊢
  simp only [WSD, A.wpD, sx, Nat.reduceBEq, Nat.reduceAdd, Nat.reduceLeDiff, reduceCtorEq]
  refine CallWD.own (rest := []) (rnum_c g hr14) (List.Perm.refl _) ?_
  rintro v15 own' u15 ⟨rfl, rfl, rfl⟩ _
  have hr15 := Nat.le_trans ((ls_num p14.2).1) hr14
  have hi15 := rdNumber_i64 59 0 p14.2
  have hi15 : i64 (rdNum p14.2).1 := hi15
  generalize rdNum p14.2 = p15 at hr15 hi15 ⊢
  simp only [WSD, A.wpD, sx, Nat.reduceBEq, Nat.reduceAdd, Nat.reduceLeDiff, reduceCtorEq]
  refine W_seq (W_reg ?_)
  simp only [r33_10, r33_10a, sx, Nat.reduceBEq, Nat.reduceAdd, Nat.reduceLeDiff, reduceCtorEq]
  refine W_ret (RetQ.out rfl ⟨rfl, rfl⟩ ⟨_, rfl, rfl, ⟨_, _, _, _, _, _, _, _, rfl, hlt, hS6, hS7, hS8, hS9, hv10, hv11, hS12, hS13⟩⟩)
end Go.Proofs.YtenmmfkgopffgaaGreatDoor

set_option maxRecDepth 4000
set_option linter.unnecessarySimpa false
namespace Go.Proofs.YtenmmfkgopffgaaGreatDoor
open Go

set_option maxHeartbeats 1000000 in
theorem step32 {b0 b1 b : Nat} {u0 : Mem} {x0 x1 y3 y4 : Value} (g : GM u0) (hb1 : u0 b1 = some (.cells #[.pointer (some ⟨b, 0, none⟩)] 91 (0, 0))) :
    Step 32 [.pointer (some ⟨b0, 0, none⟩), .pointer (some ⟨b1, 0, none⟩)] b rdCircle (STl b0 27 [x0, x1] [y3, y4] 50 15 circleR) u0 := by
  rintro acc own u r hle ⟨v, css, rfl, hk, hall⟩ hacc hr0 hr
  have g := g.mono hle
  have hb1 := hle _ _ hb1
  unfold maxR at hacc
  refine fn32 fun cx hu => ?_
  refine W_gh (bx' := [⟨0, b0, [x0, x1, v, y3, y4], 27⟩]) (own' := [Row 50 15 v acc.length css.flatten, RdB b r]) (fun w i => i) ?_
  refine W_drw (drawOK mixedP) ?_
  simp only [WSD, A.wpD, r32_0, r32_0a, r32_0b, r32_0c, r32_0d, r32_0e, r32_0f, sx, Nat.reduceBEq, Nat.reduceAdd, Nat.reduceLeDiff, reduceCtorEq]
  refine ⟨[.pointer (some ⟨b, 0, none⟩)], .inl ⟨_, _, _, hb1, rfl⟩, rfl, ?_⟩
  refine CallWD.own (rest := [Row 50 15 v acc.length css.flatten]) (rcircle_c g hr) (List.Perm.swap _ _ _) ?_
  rintro v1 own' u1 ⟨cs, rfl, rfl, hm⟩ hle1
  have hme := hm
  generalize rdCircle r = p1 at hm hme ⊢
  obtain ⟨v1, v2, v3, v4, v5, v6, v7, v8, rfl, htx, h1, h2, h3, h4, h5, h6, h7, h8⟩ := hme
  obtain ⟨a1, c1, rfl, _⟩ := h1.formL
  obtain ⟨a2, c2, rfl, _⟩ := h2.formL
  obtain ⟨a3, c3, rfl, _⟩ := h3.formL
  obtain ⟨a4, c4, rfl, _⟩ := h4.formL
  obtain ⟨a5, c5, rfl, _⟩ := h5.formL
  obtain ⟨a6, c6, rfl, _⟩ := h6.formL
  obtain ⟨a7, c7, rfl, _⟩ := h7.formL
  obtain ⟨a8, c8, rfl, _⟩ := h8.formL
  refine .inl ⟨by simp [lenAll, vcells], fun blk u9 hle9 hu9 => ?_⟩
  simp only [WSD, A.wpD, sx, Nat.reduceBEq, Nat.reduceAdd, Nat.reduceLeDiff, reduceCtorEq]
  refine ⟨acc.length, css.flatten, [RdB b p1.2], [ic p1.1.id, ic p1.1.found, .string p1.1.text, ic p1.1.version, ic p1.1.law, .slice a1 p1.1.members.length c1, .slice a2 p1.1.paid.length c2, .slice a3 p1.1.bids.length c3, .slice a4 p1.1.turns.length c4, .slice a5 p1.1.pots.length c5, .slice a6 p1.1.out.length c6, .slice a7 p1.1.op.length c7, .slice a8 p1.1.claims.length c8, ic p1.1.fund, .bool p1.1.ended], List.Perm.swap _ _ _, by simp, fun _ => ⟨blk, 0, rfl, _, _, _, hu9, by simp [flatC, vcells]⟩, by simp [all1, Value.oneCell'], by omega, by omega, ?_⟩
  rintro v' ⟨a', c', rfl⟩
  simp only [WSD, A.wpD, sx, Nat.reduceBEq, Nat.reduceAdd, Nat.reduceLeDiff, reduceCtorEq]
  refine RetQ.outG (own' := [Blk b0 (.cells #[x0, x1, .slice a' (acc.length + 1) c', y3, y4] 27 (0, 0)), Row 50 15 (.slice a' (acc.length + 1) c') (acc.length + 1) (css.flatten ++ [ic p1.1.id, ic p1.1.found, .string p1.1.text, ic p1.1.version, ic p1.1.law, .slice a1 p1.1.members.length c1, .slice a2 p1.1.paid.length c2, .slice a3 p1.1.bids.length c3, .slice a4 p1.1.turns.length c4, .slice a5 p1.1.pots.length c5, .slice a6 p1.1.out.length c6, .slice a7 p1.1.op.length c7, .slice a8 p1.1.claims.length c8, ic p1.1.fund, .bool p1.1.ended]), RdB b p1.2]) rfl trivial (fun w i => i) ⟨[_, _], rfl, .slice a' (acc.length + 1) c', css ++ [[ic p1.1.id, ic p1.1.found, .string p1.1.text, ic p1.1.version, ic p1.1.law, .slice a1 p1.1.members.length c1, .slice a2 p1.1.paid.length c2, .slice a3 p1.1.bids.length c3, .slice a4 p1.1.turns.length c4, .slice a5 p1.1.pots.length c5, .slice a6 p1.1.out.length c6, .slice a7 p1.1.op.length c7, .slice a8 p1.1.claims.length c8, ic p1.1.fund, .bool p1.1.ended]], ?_, ?_, ?_⟩
  · simp
  · intro cs hcs
    rcases List.mem_append.1 hcs with h | h
    · exact hk cs h
    · simp only [List.mem_singleton] at h
      subst h
      rfl
  · exact ((hall.mono fun _ _ q => circleR.mono q (mpl_mu (mle_trans hle1 hle9))).app (hm.mono (mpl_mu hle9)))
theorem szC_R {M : MP} {cs : List Value} {c : Circle} (h : circleR M cs c) : szC c := by
  obtain ⟨vm, vp, vb, vt, vo, vu, vq, vc, rfl, ht, hm, hp, hb, htu, hpo, hou, hq, hcl⟩ := h
  have sub : ∀ {α : Type} {k : Nat} {R : MP → List Value → α → Prop} {v : Value} {xs : List α} {S : α → Prop}, Sl k R M v xs → (∀ cs x, R M cs x → S x) → ∀ x ∈ xs, S x := by
    intro α k R v xs S h hs x hx
    obtain ⟨css, h1, h2⟩ := h
    obtain ⟨i, hi, rfl⟩ := List.getElem_of_mem hx
    exact hs _ _ (h2.at_ (by rw [h2.len]; exact hi) hi)
  refine ⟨ht, hm.formL.choose_spec.choose_spec.2, hp.formL.choose_spec.choose_spec.2, hb.formL.choose_spec.choose_spec.2, (SlF.formL htu).choose_spec.choose_spec.2, (SlF.formL hpo).choose_spec.choose_spec.2, (SlF.formL hou).choose_spec.choose_spec.2, hq.formL.choose_spec.choose_spec.2, hcl.formL.choose_spec.choose_spec.2, sub hm ?_, sub hq ?_, sub hcl ?_⟩
  · rintro cs x ⟨v, _, h⟩; exact (SlF.formL h).choose_spec.choose_spec.2
  · rintro cs x ⟨v, _, h⟩; exact (SlF.formL h).choose_spec.choose_spec.2
  · rintro cs x ⟨v, w, _, h, h'⟩; exact ⟨(SlF.formL h).choose_spec.choose_spec.2, (SlF.formL h').choose_spec.choose_spec.2⟩
theorem szS_R {M : MP} {cs : List Value} {s : State} (h : stateR M cs s) : szS s := by
  obtain ⟨vk, vc, vl, vv, rfl, hk, hc, hl, hv⟩ := h
  refine ⟨(SlF.formL hk).choose_spec.choose_spec.2, hc.formL.choose_spec.choose_spec.2, hl.formL.choose_spec.choose_spec.2, hv.formL.choose_spec.choose_spec.2, fun x hx => ?_⟩
  obtain ⟨css, h1, h2⟩ := hc
  obtain ⟨i, hi, rfl⟩ := List.getElem_of_mem hx
  exact szC_R (h2.at_ (by rw [h2.len]; exact hi) hi)
theorem ropen_c (t : Str) (u : Mem) : Fn Tryz.prog 28 [sv t] [] u fun v own' u' => ∃ b : Nat, v = .pointer (some ⟨b, 0, none⟩) ∧ own' = [RdB b ⟨t, false⟩] ∧ u' = u := by
  refine fn28 fun cx hu => ?_
  refine W_seq (W_reg ?_)
  simp only [r28_0, sx, Nat.reduceBEq, Nat.reduceAdd, Nat.reduceLeDiff, reduceCtorEq]
  refine W_seq (W_reg ?_)
  simp only [r28_1, r28_1a, r28_1b, mksV, sx, Nat.reduceBEq, Nat.reduceAdd, Nat.reduceLeDiff, reduceCtorEq]
  intro b
  exact W_ret (RetQ.outG rfl trivial (fun w i => i) ⟨b, rfl, rfl, rfl⟩)
set_option maxHeartbeats 2000000 in
theorem read_c {t : Str} {u : Mem} (g : GM u) (hr : t.length ≤ maxR) : Fn Tryz.prog 9 [sv t] [] u fun v own' u' => ∃ cs, v = .tuple #[.agg cs.toArray, ic (readB t).2] ∧ own' = [] ∧ stateR (MU u') cs (readB t).1 := by
  refine fn9 fun cx hu => ?_
  refine W_seq (W_reg ?_)
  simp only [r9_0, r9_0a, sx, Nat.reduceBEq, Nat.reduceAdd, Nat.reduceLeDiff, reduceCtorEq]
  intro b2
  refine W_seq (W_reg ?_)
  simp only [r9_1, r9_1a, r9_1b, r9_1c, r9_1d, sx, Nat.reduceBEq, Nat.reduceAdd, Nat.reduceLeDiff, reduceCtorEq]
  refine CallW.u (ropen_c t u) ?_
  rintro v own' u' ⟨b, rfl, rfl, rfl⟩ _
  simp only [mksV, sx, Nat.reduceBEq, Nat.reduceAdd, Nat.reduceLeDiff, reduceCtorEq]
  intro b4
  refine W_frzB fun u0 hle0 hb1 => ?_
  have g := g.mono hle0
  have hr : (⟨t, false⟩ : Rd).rest.length ≤ maxR := hr
  unfold readB
  have hle := le_state ⟨t, false⟩
  have h0 : (⟨t, false⟩ : Rd).rest = t := rfl
  generalize hrd : (⟨t, false⟩ : Rd) = r at *
  refine W_seq (W_drw (drawOK mixedP) ?_)
  simp only [WSD, A.wpD, r9_2, r9_2a, r9_2b, r9_2c, r9_2d, r9_2e, r9_2f, r9_2g, r9_2h, rdState, sx, Nat.reduceBEq, Nat.reduceAdd, Nat.reduceLeDiff, reduceCtorEq]
  simp only [rdState] at hle
  refine ⟨[.pointer (some ⟨b, 0, none⟩)], .inl ⟨_, _, _, hb1, rfl⟩, rfl, ?_⟩
  refine ⟨[.pointer (some ⟨b, 0, none⟩)], .inl ⟨_, _, _, hb1, rfl⟩, rfl, ?_⟩
  refine CallWD.own (rest := []) (rnum_c g hr) (List.Perm.refl _) ?_
  rintro v1 own' u1 ⟨rfl, rfl, rfl⟩ _
  have hr1 := Nat.le_trans ((ls_num r).1) hr
  have hi1 := rdNumber_i64 59 0 r
  have hi1 : i64 (rdNum r).1 := hi1
  generalize rdNum r = p1 at hr1 hi1 hle ⊢
  refine CallWD.own (rest := []) (rnums g hr1) (List.Perm.refl _) ?_
  rintro v2 own' u2 ⟨rfl, hv2⟩ hle2
  have g := g.mono hle2
  obtain ⟨a2, c2, rfl, hm2⟩ := hv2.formL
  have hr2 := Nat.le_trans (lw_nums p1.2) hr1
  generalize rdNums p1.2 = p2 at hr2 hv2 hm2 hle ⊢
  have hb1 := hle2 _ _ hb1
  simp only [WSD, A.wpD, mksV, sx, Nat.reduceBEq, Nat.reduceAdd, Nat.reduceLeDiff, reduceCtorEq]
  intro b5
  refine W_row0 50 15 ?_
  refine W_seq (W_reg ?_)
  simp only [r9_3, r9_3a, r9_3b, sx, Nat.reduceBEq, Nat.reduceAdd, Nat.reduceLeDiff, reduceCtorEq]
  refine ⟨[.pointer (some ⟨b, 0, none⟩)], .inl ⟨_, _, _, hb1, rfl⟩, rfl, ?_⟩
  refine CallW.each (pre := [ic p1.1, .slice a2 p2.1.length c2]) (post := [.slice none 0 0, .slice none 0 0]) (R := circleR) (one := rdCircle) g hr2 ls_circle (step32 g hb1) ?_
  intro v3 v' css u3 hk hall hle3
  refine W_frz fun u3' bs hle3' hrb hmb => ?_
  have hlen := each_len ls_circle p2.2
  have hr3 := Nat.le_trans (lw_each (fun r => (ls_circle r).1) p2.2) hr2
  have hS3 := Sl_of_row (R := circleR) (fun _ _ _ _ => circleR.mono) hrb hk (Nat.le_trans hlen (Nat.le_trans hr2 (by decide))) hall hle3' hmb
  clear hrb hall hlen
  have hle3 := mle_trans hle3 hle3'
  have g := g.mono hle3
  have hb1 := hle3 _ _ hb1
  generalize rdEach rdCircle p2.2 = p3 at hr3 hS3 hle ⊢
  obtain ⟨a3, c3, rfl, hm3⟩ := hS3.formL
  have hv2 := hv2.mono (mpl_mu hle3)
  refine W_row0 40 7 ?_
  refine W_seq (W_reg ?_)
  simp only [r9_4, r9_4a, r9_4b, sx, Nat.reduceBEq, Nat.reduceAdd, Nat.reduceLeDiff, reduceCtorEq]
  refine ⟨[.pointer (some ⟨b, 0, none⟩)], .inl ⟨_, _, _, hb1, rfl⟩, rfl, ?_⟩
  refine CallW.each (pre := [ic p1.1, .slice a2 p2.1.length c2, .slice a3 p3.1.length c3]) (post := [.slice none 0 0]) (R := (fun _ cs x => cs = lotC x)) (one := rdLot) g hr3 ls_lot (step34 g hb1) ?_
  intro v4 v' css u4 hk hall hle4
  refine W_frz fun u4' bs hle4' hrb hmb => ?_
  have hlen := each_len ls_lot p3.2
  have hr4 := Nat.le_trans (lw_each (fun r => (ls_lot r).1) p3.2) hr3
  have hS4 := SlF_of_row hrb hk (Nat.le_trans hlen (Nat.le_trans hr3 (by decide))) hall hmb
  clear hrb hall hlen
  have hle4 := mle_trans hle4 hle4'
  have g := g.mono hle4
  have hb1 := hle4 _ _ hb1
  generalize rdEach rdLot p3.2 = p4 at hr4 hS4 hle ⊢
  obtain ⟨a4, c4, rfl, hm4⟩ := hS4.formL
  have hv2 := hv2.mono (mpl_mu hle4)
  have hS3 := Sl.mono (R := circleR) (fun _ _ _ _ => circleR.mono) hS3 (mpl_mu hle4)
  refine W_row0 42 2 ?_
  refine W_seq (W_reg ?_)
  simp only [r9_5, r9_5a, r9_5b, sx, Nat.reduceBEq, Nat.reduceAdd, Nat.reduceLeDiff, reduceCtorEq]
  refine ⟨[.pointer (some ⟨b, 0, none⟩)], .inl ⟨_, _, _, hb1, rfl⟩, rfl, ?_⟩
  refine CallW.each (pre := [ic p1.1, .slice a2 p2.1.length c2, .slice a3 p3.1.length c3, .slice a4 p4.1.length c4]) (post := []) (R := (fun _ cs x => cs = voidC x)) (one := rdVoid) g hr4 ls_void (step36 g hb1) ?_
  intro v5 v' css u5 hk hall hle5
  refine W_frz fun u5' bs hle5' hrb hmb => ?_
  have hlen := each_len ls_void p4.2
  have hr5 := Nat.le_trans (lw_each (fun r => (ls_void r).1) p4.2) hr4
  have hS5 := SlF_of_row hrb hk (Nat.le_trans hlen (Nat.le_trans hr4 (by decide))) hall hmb
  clear hrb hall hlen
  have hle5 := mle_trans hle5 hle5'
  have g := g.mono hle5
  have hb1 := hle5 _ _ hb1
  generalize rdEach rdVoid p4.2 = p5 at hr5 hS5 hle ⊢
  obtain ⟨a5, c5, rfl, hm5⟩ := hS5.formL
  have hv2 := hv2.mono (mpl_mu hle5)
  have hS3 := Sl.mono (R := circleR) (fun _ _ _ _ => circleR.mono) hS3 (mpl_mu hle5)
  have hS4 := hS4.mono (mpl_mu hle5)
  generalize hst : (⟨p1.1, p2.1, p3.1, p4.1, p5.1⟩ : State) = st at *
  have hS : stateR (MU u5') [ic p1.1, .slice a2 p2.1.length c2, .slice a3 p3.1.length c3, .slice a4 p4.1.length c4, .slice a5 p5.1.length c5] st := by
    subst hst
    exact ⟨_, _, _, _, rfl, hv2, hS3, hS4, hS5⟩
  refine W_seq ?_
  refine W_seq (W_reg ?_)
  simp only [r9_6, r9_6a, r9_6b, r9_6c, r9_6d, r9_6e, r9_6f, r9_6g, sx, Nat.reduceBEq, Nat.reduceAdd, Nat.reduceLeDiff, reduceCtorEq]
  refine ⟨[.pointer (some ⟨b, 0, none⟩)], .inl ⟨_, _, _, hb1, rfl⟩, rfl, ?_⟩
  refine CallW.own (rest := []) (rdone_c (r := p5.2)) (List.Perm.refl _) ?_
  rintro v6 own' u6 ⟨rfl, rfl, rfl⟩ _
  simp only [sx, Nat.reduceBEq, Nat.reduceAdd, Nat.reduceLeDiff, reduceCtorEq]
  refine ⟨_, fun _ => right_c hS, ?_⟩
  simp only [sx, Nat.reduceBEq, Nat.reduceAdd, Nat.reduceLeDiff, reduceCtorEq]
  have hcond : (bif !(!p5.2.bad && p5.2.rest.isEmpty) then true else !rightB st) = false → p5.2.bad = false ∧ rightB st = true := by
    cases p5.2.bad <;> cases p5.2.rest.isEmpty <;> cases rightB st <;> simp
  refine ⟨sv (textB st), fun hc => text_c g hS (fun hr' => ⟨ok_of_right hr' (szS_R hS), ?_⟩), ?_⟩
  · have := (hle (hcond hc).1).2
    unfold maxR at hr
    unfold big
    omega
  simp only [ba_list, sx, Nat.reduceBEq, Nat.reduceAdd, Nat.reduceLeDiff, reduceCtorEq]
  have e39 : (bif (bif !(!p5.2.bad && p5.2.rest.isEmpty) then true else !rightB st) then true else !(textB st == t)) = !(!p5.2.bad && p5.2.rest.isEmpty && (rightB st && textB st == t)) := by
    cases p5.2.bad <;> cases p5.2.rest.isEmpty <;> cases rightB st <;> cases (textB st == t) <;> rfl
  rw [e39]
  cases hD : (!p5.2.bad && p5.2.rest.isEmpty && (rightB st && textB st == t)) with
  | false =>
    refine W_cnd rfl (fun hc => ?_) (fun hc => by cases hc)
    refine W_seq (W_reg ?_)
    simp only [r9_7, r9_7a, r9_7b, mksV, sx, Nat.reduceBEq, Nat.reduceAdd, Nat.reduceLeDiff, reduceCtorEq]
    refine W_ret (RetQ.outG rfl ⟨⟨rfl, rfl⟩, trivial, trivial⟩ (fun w i => Inv.drop (L := []) (D := [RdB b p5.2]) i.noB) ⟨_, rfl, rfl, ?_⟩)
    exact ⟨_, _, _, _, rfl, nilSlC _ 1, ⟨[], nilSlC _ 15, trivial⟩, nilSlC _ 7, nilSlC _ 2⟩
  | true =>
    refine W_cnd rfl (fun hc => by cases hc) (fun hc => W_skip ?_)
    refine W_seq (W_reg ?_)
    simp only [r9_8, r9_8a, r9_8b, sx, Nat.reduceBEq, Nat.reduceAdd, Nat.reduceLeDiff, reduceCtorEq]
    exact W_ret (RetQ.outG rfl ⟨⟨rfl, rfl⟩, trivial, trivial⟩ (fun w i => Inv.drop (L := []) (D := [RdB b p5.2]) i.noB) ⟨_, rfl, rfl, hS⟩)
end Go.Proofs.YtenmmfkgopffgaaGreatDoor

set_option maxRecDepth 4000
set_option linter.unnecessarySimpa false
namespace Go.Proofs.YtenmmfkgopffgaaGreatDoor
open Go

theorem cntS_bound {xs : List Span} (hv : ∀ s ∈ xs, validB s = true) : 0 ≤ cntS xs ∧ cntS xs ≤ 1048576 * xs.length := by
  induction xs with
  | nil => simp [cntS]
  | cons x r ih =>
    have h1 := ih fun s hs => hv s (by simp [hs])
    have h2 := valid_lt (hv x (by simp))
    simp only [cntS, List.length_cons]; omega
theorem cntS_take {xs : List Span} {i : Nat} (h : i < xs.length) : cntS (xs.take (i + 1)) = cntS (xs.take i) + (xs[i].to_ - xs[i].from_) := by
  rw [List.take_add_one, List.getElem?_eq_getElem h, cntS_app]; simp [cntS]
theorem count_q {v : Value} {xs : List Span} {u : Mem} (hv : SlF 3 spanC (MU u) v xs) (hval : ∀ s ∈ xs, validB s = true) (hap : xs.Pairwise apart) : QFn Tryz.prog 58 [v] u (ic (cntS xs)) := by
  have hn : xs.length ≤ maxN := by obtain ⟨_, _, _, h, _⟩ := hv; simpa using h
  unfold maxN at hn
  refine fn58 fun cx hu => ?_
  refine W_seq (W_reg ?_)
  simp only [r58_0, sx, Nat.reduceBEq, Nat.reduceAdd, Nat.reduceLeDiff, reduceCtorEq]
  refine W_seq (W_reg ?_)
  simp only [r58_1, sx, Nat.reduceBEq, Nat.reduceAdd, Nat.reduceLeDiff, reduceCtorEq]
  refine W_seq (W_seq ?_)
  refine W_reg ?_
  simp only [r58_2, r58_2a, r58_2b, sx, Nat.reduceBEq, Nat.reduceAdd, Nat.reduceLeDiff, reduceCtorEq]
  refine CallW.u (norm_c hv hval hap) ?_
  rintro v1 own' u1 ⟨rfl, hv1⟩ hle1
  have hni := norm_of hval hap
  have hnl := normS_len xs
  rw [← hni.cnt]
  have hvl := hni.val
  generalize normS xs = ys at *
  obtain ⟨a, c, rfl, hmax, hcap, hrow, hlen⟩ := hv1
  simp only [List.length_map] at hmax hcap
  simp only [sx, Nat.reduceBEq, Nat.reduceAdd, Nat.reduceLeDiff, reduceCtorEq]
  rw [List.length_map]
  refine W_blk (W_loop (fun m e bx own u' => ∃ i, i ≤ ys.length ∧ m = ys.length - i ∧ St [(3, ic (cntS (ys.take i))), (7, .slice a ys.length c), (8, ic ys.length), (9, ic i)] [] (fun own u' => u1 = u' ∧ own = []) e bx own u') (m := ys.length) ⟨0, by omega, by omega, .mk ⟨rfl, rfl⟩⟩ ?_)
  rintro m e bx own u' ⟨i, hi, rfl, ⟨rfl, rfl⟩⟩
  refine W_seq (W_reg ?_)
  simp only [r58_3, sx, Nat.reduceBEq, Nat.reduceAdd, Nat.reduceLeDiff, reduceCtorEq]
  refine W_seq (W_cnd rfl (fun hc => W_skip ?_) (fun hc => W_exit ?_))
  · have hlt : i < ys.length := by simpa using hc
    obtain ⟨o, off, rfl, hr⟩ := hrow (map_ne hlt)
    have hcell := SlC_at hr hlen (by simpa using hlt)
    rw [List.getElem_map] at hcell
    refine W_seq (W_blk ?_)
    refine W_seq (W_reg ?_)
    simp only [r58_4, r58_4a, r58_4b, r58_4c, sx, Nat.reduceBEq, Nat.reduceAdd, Nat.reduceLeDiff, reduceCtorEq]
    refine ⟨by omega, spanC ys[i], hcell.lrow, rfl, ?_⟩
    simp only [spanC, sx, Nat.reduceBEq, Nat.reduceAdd, Nat.reduceLeDiff, reduceCtorEq]
    intro b5
    refine W_reg ?_
    simp only [r58_5, sx, Nat.reduceBEq, Nat.reduceAdd, Nat.reduceLeDiff, reduceCtorEq]
    have h1 := cntS_bound (xs := ys.take i) (fun s hs => hvl s (List.mem_of_mem_take hs))
    have h2 := valid_lt (hvl _ (List.getElem_mem hlt))
    have h3 : (ys.take i).length ≤ 4294967296 := by rw [List.length_take]; omega
    rw [wrapI (n := ys[i].to_ - ys[i].from_) (by omega) (by omega), wrapI (by omega) (by omega)]
    refine W_reg ?_
    simp only [r58_6, sx, Nat.reduceBEq, Nat.reduceAdd, Nat.reduceLeDiff, reduceCtorEq]
    rw [wrapS hlt hmax, ← cntS_take hlt]
    exact ⟨_, by omega, i + 1, by omega, rfl, .mk ⟨rfl, rfl⟩⟩
  · have hge : ¬ i < ys.length := by simpa using hc
    rw [List.take_of_length_le (by omega)]
    refine W_seq (W_reg ?_)
    simp only [r58_7, sx, Nat.reduceBEq, Nat.reduceAdd, Nat.reduceLeDiff, reduceCtorEq]
    exact W_ret (RetQ.outQ hu hle1 rfl trivial ⟨rfl, rfl, rfl⟩)
theorem lots_spans : ∀ (l : List Lot) (o : Option Lot), lotsB o l = true → (∀ x ∈ l, validB (spanOf x) = true) ∧ (l.map spanOf).Pairwise apart ∧ ∀ p, o = some p → ∀ x ∈ l, validB (spanOf p) = true → apart (spanOf p) (spanOf x)
  | [], _, _ => ⟨by simp, by simp, by simp⟩
  | x :: l, o, h => by
    have h' : lotB x = true ∧ lotsB (some x) l = true ∧ ∀ p, o = some p → pairB p x = true := by
      cases o with
      | none => simp only [lotsB, Bool.and_eq_true] at h; exact ⟨h.1, h.2, by simp⟩
      | some p => simp only [lotsB, Bool.and_eq_true] at h; exact ⟨h.1.1, h.2, fun q hq => by injection hq with hq; subst hq; exact h.1.2⟩
    obtain ⟨h1, h2, h3⟩ := h'
    obtain ⟨i1, i2, i3⟩ := lots_spans l (some x) h2
    have hx : validB (spanOf x) = true := by
      unfold lotB at h1
      unfold validB spanOf
      simp only [Bool.and_eq_true, decide_eq_true_eq] at h1 ⊢
      exact ⟨⟨⟨h1.1.1.1.1.1.1.1, h1.1.1.1.1.1.1.2⟩, h1.1.1.1.1.1.2⟩, h1.1.1.1.1.2⟩
    have hxl := i3 x rfl
    refine ⟨fun y hy => ?_, ?_, fun p hp y hy hvp => ?_⟩
    · rcases List.mem_cons.1 hy with rfl | hy
      · exact hx
      · exact i1 y hy
    · rw [List.map_cons, List.pairwise_cons]
      refine ⟨fun s hs => ?_, i2⟩
      obtain ⟨y, hy, rfl⟩ := List.mem_map.1 hs
      exact hxl y hy hx
    · have hpx : apart (spanOf p) (spanOf x) := by
        have := h3 p hp
        unfold pairB at this
        simp only [Bool.or_eq_true, Bool.and_eq_true, decide_eq_true_eq, beq_iff_eq] at this
        unfold apart spanOf
        rcases this with q | q
        · exact .inl q
        · exact .inr ⟨q.1.1, q.1.2⟩
      rcases List.mem_cons.1 hy with rfl | hy
      · exact hpx
      · exact apart_trans hx hpx (hxl y hy hx)
def openL (p : Lot → Bool) (l : List Lot) : List Span := (l.filter fun x => (x.spent == -1) && p x).map spanOf
theorem openL_ok {p : Lot → Bool} {l : List Lot} (h : lotsB none l = true) : (∀ s ∈ openL p l, validB s = true) ∧ (openL p l).Pairwise apart := by
  obtain ⟨h1, h2, _⟩ := lots_spans l none h
  refine ⟨fun s hs => ?_, ?_⟩
  · obtain ⟨x, hx, rfl⟩ := List.mem_map.1 hs
    exact h1 x (List.mem_filter.1 hx).1
  · exact h2.sublist ((List.filter_sublist).map spanOf)
theorem openL_take {p : Lot → Bool} {l : List Lot} {i : Nat} (h : i < l.length) : openL p (l.take (i + 1)) = openL p (l.take i) ++ bif (l[i].spent == -1) && p l[i] then [spanOf l[i]] else [] := by
  unfold openL
  rw [List.take_add_one, List.getElem?_eq_getElem h, List.filter_append, List.map_append]
  congr 1
  simp only [Option.toList, List.filter]
  cases (l[i].spent == -1) && p l[i] <;> rfl
theorem openL_len (p : Lot → Bool) (l : List Lot) : (openL p l).length ≤ l.length := by unfold openL; rw [List.length_map]; exact List.length_filter_le _ _
set_option maxHeartbeats 1000000 in
theorem open_l {v : Value} {xs : List Lot} {u : Mem} {f : FuncId} {caps : List Value} {p : Lot → Bool} (hv : SlF 7 lotC (MU u) v xs) (hr : lotsB none xs = true) (hf : ∀ (l : Lot) (u' : Mem), mle u u' → QFn Tryz.prog f ([.agg (lotC l).toArray] ++ caps) u' (.bool (p l))) :
    Fn Tryz.prog 60 [v, .func (.func f) #[] caps.toArray] [] u fun v' own' u' => own' = [] ∧ SlF 3 spanC (MU u') v' (normS (openL p xs)) := by
  obtain ⟨a, c, rfl, hmax, hcap, hrow, hlen⟩ := hv
  simp only [List.length_map] at hmax hcap
  have hm' := hmax
  unfold maxN at hm'
  refine fn60 fun cx hu => ?_
  refine W_seq (W_reg ?_)
  simp only [r60_0, sx, Nat.reduceBEq, Nat.reduceAdd, Nat.reduceLeDiff, reduceCtorEq]
  refine W_seq (W_reg ?_)
  simp only [r60_1, sx, Nat.reduceBEq, Nat.reduceAdd, Nat.reduceLeDiff, reduceCtorEq]
  refine W_seq (W_seq ?_)
  refine W_reg ?_
  simp only [r60_2, sx, Nat.reduceBEq, Nat.reduceAdd, Nat.reduceLeDiff, reduceCtorEq]
  rw [List.length_map]
  refine W_row0 38 3 ?_
  refine W_blk (W_loop (fun m e bx own u' => ∃ (i : Nat) (a' : Option Addr) (c' : Nat), i ≤ xs.length ∧ m = xs.length - i ∧ St [(1, .func (.func f) #[] caps.toArray), (5, .slice a' (openL p (xs.take i)).length c'), (8, .slice a xs.length c), (9, ic xs.length), (10, ic i)] [] (fun own u' => mle u u' ∧ own = [Row 38 3 (.slice a' (openL p (xs.take i)).length c') (openL p (xs.take i)).length ((openL p (xs.take i)).map spanC).flatten]) e bx own u') (m := xs.length) ⟨0, none, 0, by omega, by omega, .mk ⟨mle_refl _, rfl⟩⟩ ?_)
  rintro m e bx own u' ⟨i, a', c', hi, rfl, ⟨hle, rfl⟩⟩
  refine W_seq (W_reg ?_)
  simp only [r60_3, sx, Nat.reduceBEq, Nat.reduceAdd, Nat.reduceLeDiff, reduceCtorEq]
  refine W_seq (W_cnd rfl (fun hc => W_skip ?_) (fun hc => W_exit ?_))
  rotate_left
  · have hge : ¬ i < xs.length := by simpa using hc
    rw [List.take_of_length_le (by omega)]
    have hok := openL_ok (p := p) hr
    simp only [sx, Nat.reduceBEq, Nat.reduceAdd, Nat.reduceLeDiff, reduceCtorEq]
    refine W_frz fun u3 bs3 hle3 hrb3 hmb3 => ?_
    have hS : SlF 3 spanC (MU u3) (.slice a' (openL p xs).length c') (openL p xs) := SlC.mono (SlC_rowB (by rw [List.length_map]; exact hrb3) (by rw [List.length_map]; exact Nat.le_trans (openL_len p xs) hmax) (by simp [spanC])) hmb3
    refine W_seq (W_reg ?_)
    simp only [r60_8, r60_8a, r60_8b, sx, Nat.reduceBEq, Nat.reduceAdd, Nat.reduceLeDiff, reduceCtorEq]
    refine CallW.u (norm_c hS hok.1 hok.2) ?_
    rintro v1 own' u4 ⟨rfl, hv4⟩ hle4
    exact W_ret (RetQ.outG rfl trivial (fun w i => i) ⟨rfl, hv4⟩)
  have hlt : i < xs.length := by simpa using hc
  obtain ⟨o, off, rfl, hrr⟩ := hrow (map_ne hlt)
  have hcell := (SlC_at hrr hlen (by simpa using hlt)).mono (mpl_mu hle)
  rw [List.getElem_map] at hcell
  have hst := openL_take (p := p) hlt
  have hol : (openL p (xs.take i)).length ≤ i := Nat.le_trans (openL_len _ _) (by rw [List.length_take]; omega)
  refine W_seq (W_blk ?_)
  refine W_seq (W_reg ?_)
  simp only [r60_4, r60_4a, r60_4b, r60_4c, sx, Nat.reduceBEq, Nat.reduceAdd, Nat.reduceLeDiff, reduceCtorEq]
  refine ⟨by omega, lotC xs[i], hcell.lrow, rfl, ?_⟩
  simp only [lotC, sx, Nat.reduceBEq, Nat.reduceAdd, Nat.reduceLeDiff, reduceCtorEq]
  intro b7
  refine W_seq (W_reg ?_)
  simp only [r60_5, r60_5a, sx, Nat.reduceBEq, Nat.reduceAdd, Nat.reduceLeDiff, reduceCtorEq]
  refine ⟨fun hh1 => ?_, fun hh1 => ?_⟩
  rotate_left
  · simp only [r60_5a_g, r60_5a_ga, sx, Nat.reduceBEq, Nat.reduceAdd, Nat.reduceLeDiff, reduceCtorEq]
    simp only [r60_5b, sx, Nat.reduceBEq, Nat.reduceAdd, Nat.reduceLeDiff, reduceCtorEq]
    refine W_cnd rfl (fun hb => by cases hb) (fun hb => W_skip ?_)
    rw [hh1] at hst
    simp only [Bool.false_and, cond_false, List.append_nil] at hst
    refine W_reg ?_
    simp only [r60_7, sx, Nat.reduceBEq, Nat.reduceAdd, Nat.reduceLeDiff, reduceCtorEq]
    rw [wrapS hlt hmax]
    exact ⟨_, by omega, i + 1, a', c', by omega, rfl, by rw [hst]; exact .mk ⟨hle, rfl⟩⟩
  rw [hh1, Bool.true_and] at hst
  simp only [r60_5a_g, r60_5a_ga, sx, Nat.reduceBEq, Nat.reduceAdd, Nat.reduceLeDiff, reduceCtorEq]
  refine CallW.q (v := .bool (p xs[i])) (hf xs[i] u' hle) ?_
  simp only [r60_5b, sx, Nat.reduceBEq, Nat.reduceAdd, Nat.reduceLeDiff, reduceCtorEq]
  refine W_cnd rfl (fun hb => ?_) (fun hb => W_skip ?_)
  · rw [hb] at hst
    simp only [cond_true] at hst
    refine W_reg ?_
    simp only [r60_6, r60_6a, r60_6b, r60_6c, sx, Nat.reduceBEq, Nat.reduceAdd, Nat.reduceLeDiff, reduceCtorEq]
    refine .inl ⟨by simp [lenAll, vcells], fun blk u9 hle9 hu9 => ?_⟩
    refine ⟨(openL p (xs.take i)).length, ((openL p (xs.take i)).map spanC).flatten, [], spanC (spanOf xs[i]), List.Perm.refl _, by simp [spanC], fun _ => ⟨blk, 0, rfl, _, _, _, hu9, by simp [flatC, vcells, spanC, spanOf]⟩, ⟨rfl, rfl, rfl, trivial⟩, by omega, by omega, ?_⟩
    rintro v' ⟨a2, c2, rfl⟩
    refine W_reg ?_
    simp only [r60_7, sx, Nat.reduceBEq, Nat.reduceAdd, Nat.reduceLeDiff, reduceCtorEq]
    rw [wrapS hlt hmax]
    have el : (openL p (xs.take (i + 1))).length = (openL p (xs.take i)).length + 1 := by rw [hst]; simp
    have ef : ((openL p (xs.take (i + 1))).map spanC).flatten = ((openL p (xs.take i)).map spanC).flatten ++ spanC (spanOf xs[i]) := by rw [hst]; simp
    refine ⟨_, by omega, i + 1, a2, c2, by omega, rfl, ?_⟩
    rw [← el]
    exact .mk ⟨mle_trans hle hle9, by rw [ef]⟩
  · rw [hb] at hst
    simp only [cond_false, List.append_nil] at hst
    refine W_reg ?_
    simp only [r60_7, sx, Nat.reduceBEq, Nat.reduceAdd, Nat.reduceLeDiff, reduceCtorEq]
    rw [wrapS hlt hmax]
    exact ⟨_, by omega, i + 1, a', c', by omega, rfl, by rw [hst]; exact .mk ⟨hle, rfl⟩⟩
def balB (l : List Lot) (key : Int) : Int := cntS (openL (fun x => x.owner == key) l)
def sumB (l : List Lot) : Int := cntS (openL (fun _ => true) l)
theorem owned_l {v : Value} {xs : List Lot} {u : Mem} (key : Int) (hv : SlF 7 lotC (MU u) v xs) (hr : lotsB none xs = true) :
    Fn Tryz.prog 59 [v, ic key] [] u fun v' own' u' => own' = [] ∧ SlF 3 spanC (MU u') v' (normS (openL (fun x => x.owner == key) xs)) := by
  refine fn59 fun cx hu => ?_
  refine W_seq (W_reg ?_)
  simp only [r59_0, r59_0a, sx, Nat.reduceBEq, Nat.reduceAdd, Nat.reduceLeDiff, reduceCtorEq]
  intro b3
  refine W_frzB fun u1 hle1 hb3 => ?_
  refine W_seq (W_reg ?_)
  simp only [r59_1, r59_1a, r59_1b, sx, Nat.reduceBEq, Nat.reduceAdd, Nat.reduceLeDiff, reduceCtorEq]
  refine CallW.u (open_l (caps := [.pointer (some ⟨b3, 0, none⟩)]) (hv.mono (mpl_mu hle1)) hr (fun l u' hle => owned1_q l key b3 3 u' (hle _ _ hb3))) ?_
  rintro v1 own' u4 ⟨rfl, hv4⟩ hle4
  exact W_ret (RetQ.outG rfl trivial (fun w i => i) ⟨rfl, hv4⟩)
theorem balance_q {cs : List Value} {s : State} {u : Mem} (key : Int) (hv : stateR (MU u) cs s) (hr : lotsB none s.lots = true) : QFn Tryz.prog 16 [.agg cs.toArray, ic key] u (ic (balB s.lots key)) := by
  obtain ⟨vk, vc, vl, vv, rfl, hk, hc, hl, hvo⟩ := hv
  have hok := openL_ok (p := fun x => x.owner == key) hr
  have hni := norm_of hok.1 hok.2
  refine fn16 fun cx hu => ?_
  refine W_seq (W_reg ?_)
  simp only [r16_0, r16_0a, sx, Nat.reduceBEq, Nat.reduceAdd, Nat.reduceLeDiff, reduceCtorEq]
  intro b2
  try refine ⟨⟨hk.one, hc.one, hl.one, hvo.one⟩, ?_⟩
  refine W_seq (W_reg ?_)
  simp only [r16_1, r16_1a, r16_1b, r16_1c, sx, Nat.reduceBEq, Nat.reduceAdd, Nat.reduceLeDiff, reduceCtorEq]
  refine CallW.u (owned_l key hl hr) ?_
  rintro v1 own' u1 ⟨rfl, hv1⟩ hle1
  refine ⟨_, count_q hv1 hni.val hni.ap, ?_⟩
  simp only [sx, Nat.reduceBEq, Nat.reduceAdd, Nat.reduceLeDiff, reduceCtorEq]
  rw [hni.cnt]
  exact W_ret (RetQ.outQ hu hle1 rfl trivial ⟨rfl, rfl, rfl⟩)
theorem sum_q {v : Value} {xs : List Lot} {u : Mem} (hv : SlF 7 lotC (MU u) v xs) (hr : lotsB none xs = true) : QFn Tryz.prog 17 [v] u (ic (sumB xs)) := by
  have hok := openL_ok (p := fun _ => true) hr
  have hni := norm_of hok.1 hok.2
  refine fn17 fun cx hu => ?_
  refine W_seq (W_reg ?_)
  simp only [r17_0, sx, Nat.reduceBEq, Nat.reduceAdd, Nat.reduceLeDiff, reduceCtorEq]
  refine W_seq (W_reg ?_)
  simp only [r17_1, r17_1a, r17_1b, r17_1c, sx, Nat.reduceBEq, Nat.reduceAdd, Nat.reduceLeDiff, reduceCtorEq]
  refine CallW.u (open_l (caps := []) (p := fun _ => true) hv hr (fun l u' hle => sum1_q l u')) ?_
  rintro v1 own' u1 ⟨rfl, hv1⟩ hle1
  refine ⟨_, count_q hv1 hni.val hni.ap, ?_⟩
  simp only [sx, Nat.reduceBEq, Nat.reduceAdd, Nat.reduceLeDiff, reduceCtorEq]
  rw [hni.cnt]
  exact W_ret (RetQ.outQ hu hle1 rfl trivial ⟨rfl, rfl, rfl⟩)
end Go.Proofs.YtenmmfkgopffgaaGreatDoor
