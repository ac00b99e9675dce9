/- Part 29 of the proofs that the program's StateBack and StateBalance return true (texts Wj Wk Wl Wm Wn joined): what its functions compute. -/
import Derived.Test.YtenmmfkgopffgaaGreatDoorMbb
import Derived.Laws.Strings
set_option linter.unusedVariables false
set_option linter.unusedSimpArgs false
set_option maxRecDepth 4000
namespace Go.Proofs.YtenmmfkgopffgaaGreatDoor
open Go

theorem eqfMembers {v w : Value} {xs ys : List Member} {u : Mem} {g : FuncId} (hv : Sl 5 memberR (MU u) v xs) (hw : Sl 5 memberR (MU u) w ys) (hf : ∀ {cs cs' : List Value} {x y : Member} {u : Mem}, memberR (MU u) cs x → memberR (MU u) cs' y → QFn Tryz.prog g [.agg cs.toArray, .agg cs'.toArray] u (.bool (decide (x = y)))) : QFn Tryz.prog 94 [v, w, .func (.func g) #[] #[]] u (.bool (decide (xs = ys))) := by
  obtain ⟨css, ⟨a, c, rfl, hmax, hcap, hrow, hlen⟩, hall⟩ := hv
  obtain ⟨css2, ⟨a2, c2, rfl, hmax2, hcap2, hrow2, hlen2⟩, hall2⟩ := hw
  have hl : css.length = xs.length := hall.len
  have hl2 : css2.length = ys.length := hall2.len
  refine fn94 fun cx hu => ?_
  refine W_seq (W_reg ?_)
  simp only [r94_0, sx, Nat.reduceBEq, Nat.reduceAdd, Nat.reduceLeDiff, reduceCtorEq]
  refine W_seq ?_
  refine W_seq (W_reg ?_)
  simp only [r94_1, sx, Nat.reduceBEq, Nat.reduceAdd, Nat.reduceLeDiff, reduceCtorEq]
  refine W_cnd rfl (fun hc => ?_) (fun hc => W_skip ?_)
  · refine W_seq (W_reg ?_)
    simp only [r94_2, sx, Nat.reduceBEq, Nat.reduceAdd, Nat.reduceLeDiff, reduceCtorEq]
    refine W_ret (RetQ.outQ hu (mle_refl _) rfl trivial ⟨?_, rfl, rfl⟩)
    rw [decEq_len (by simp at hc; omega)]
  have hll : xs.length = ys.length := by simp at hc; omega
  clear hc
  refine W_seq ?_
  refine W_seq (W_reg ?_)
  simp only [r94_3, sx, Nat.reduceBEq, Nat.reduceAdd, Nat.reduceLeDiff, reduceCtorEq]
  refine (W_blk (W_loop (fun m e bx own u' => ∃ i, i ≤ xs.length ∧ m = xs.length - i ∧ St [(1, .slice a2 css2.length c2), (2, .func (.func g) #[] #[]), (15, .slice a css.length c), (16, ic css.length), (17, ic i)] [] (fun own u' => u' = u ∧ decide (xs = ys) = decide (xs.drop i = ys.drop i)) e bx own u') (m := xs.length) ⟨0, by omega, by omega, ?_⟩ ?_))
  · exact .mk ⟨rfl, rfl⟩
  rintro m e bx own u' ⟨i, hi, rfl, ⟨rfl, hs⟩⟩
  refine W_seq (W_reg ?_)
  simp only [r94_4, sx, Nat.reduceBEq, Nat.reduceAdd, Nat.reduceLeDiff, reduceCtorEq]
  refine W_seq (W_cnd rfl (fun hc => W_skip ?_) (fun hc => W_exit ?_))
  · have hlt : i < css.length := by simpa using hc
    have hlt2 : i < css2.length := by omega
    have hx : i < xs.length := by omega
    have hy : i < ys.length := by omega
    obtain ⟨o, off, rfl, hr⟩ := hrow (by intro q; simp [q] at hlt)
    obtain ⟨o2, off2, rfl, hr2⟩ := hrow2 (by intro q; simp [q] at hlt2)
    have hcell := SlC_at hr hlen hlt
    have hcell2 := SlC_at hr2 hlen2 hlt2
    have hxR := hall.at_ hlt hx
    have hyR := hall2.at_ hlt2 hy
    obtain ⟨v1, heq, hj⟩ := id hxR
    obtain ⟨v2, heq2, hj2⟩ := id hyR
    rw [heq] at hcell hxR
    rw [heq2] at hcell2 hyR
    rw [decEq_drop hx hy] at hs
    refine W_seq (W_blk ?_)
    refine W_seq (W_reg ?_)
    simp only [r94_5, r94_5a, r94_5b, r94_5c, r94_5d, sx, Nat.reduceBEq, Nat.reduceAdd, Nat.reduceLeDiff, reduceCtorEq]
    refine ⟨by omega, _, hcell.lrow, rfl, ?_⟩
    simp only [sx, Nat.reduceBEq, Nat.reduceAdd, Nat.reduceLeDiff, reduceCtorEq]
    intro blk8
    refine ⟨hj.one, ?_⟩
    refine W_seq (W_reg ?_)
    simp only [r94_6, r94_6a, r94_6b, r94_6c, sx, Nat.reduceBEq, Nat.reduceAdd, Nat.reduceLeDiff, reduceCtorEq]
    refine ⟨by omega, _, hcell2.lrow, rfl, ?_⟩
    simp only [sx, Nat.reduceBEq, Nat.reduceAdd, Nat.reduceLeDiff, reduceCtorEq]
    intro blk9
    refine ⟨hj2.one, ?_⟩
    refine W_seq (W_reg ?_)
    simp only [r94_7, r94_7a, sx, Nat.reduceBEq, Nat.reduceAdd, Nat.reduceLeDiff, reduceCtorEq]
    refine CallW.q (hf hxR hyR) ?_
    simp only [r94_7b, sx, Nat.reduceBEq, Nat.reduceAdd, Nat.reduceLeDiff, reduceCtorEq]
    refine W_cnd rfl (fun hb => ?_) (fun hb => W_skip ?_)
    · refine W_seq (W_reg ?_)
      simp only [r94_8, sx, Nat.reduceBEq, Nat.reduceAdd, Nat.reduceLeDiff, reduceCtorEq]
      refine W_ret (RetQ.outQ hu (mle_refl _) rfl trivial ⟨?_, rfl, rfl⟩)
      have : decide (xs[i] = ys[i]) = false := by simpa using hb
      rw [hs, this]; rfl
    · refine W_reg ?_
      simp only [r94_9, sx, Nat.reduceBEq, Nat.reduceAdd, Nat.reduceLeDiff, reduceCtorEq]
      rw [wrapS hlt hmax]
      refine ⟨_, by omega, i + 1, by omega, rfl, .mk ⟨rfl, ?_⟩⟩
      have : decide (xs[i] = ys[i]) = true := by simpa using hb
      rw [hs, this]; rfl
  · have hge : ¬ i < css.length := by simpa using hc
    rw [List.drop_eq_nil_of_le (by omega), List.drop_eq_nil_of_le (by omega)] at hs
    refine W_seq (W_reg ?_)
    simp only [r94_10, sx, Nat.reduceBEq, Nat.reduceAdd, Nat.reduceLeDiff, reduceCtorEq]
    refine W_ret (RetQ.outQ hu (mle_refl _) rfl trivial ⟨by rw [hs]; rfl, rfl, rfl⟩)
theorem eqfProposals {v w : Value} {xs ys : List Proposal} {u : Mem} {g : FuncId} (hv : Sl 5 proposalR (MU u) v xs) (hw : Sl 5 proposalR (MU u) w ys) (hf : ∀ {cs cs' : List Value} {x y : Proposal} {u : Mem}, proposalR (MU u) cs x → proposalR (MU u) cs' y → QFn Tryz.prog g [.agg cs.toArray, .agg cs'.toArray] u (.bool (decide (x = y)))) : QFn Tryz.prog 98 [v, w, .func (.func g) #[] #[]] u (.bool (decide (xs = ys))) := by
  obtain ⟨css, ⟨a, c, rfl, hmax, hcap, hrow, hlen⟩, hall⟩ := hv
  obtain ⟨css2, ⟨a2, c2, rfl, hmax2, hcap2, hrow2, hlen2⟩, hall2⟩ := hw
  have hl : css.length = xs.length := hall.len
  have hl2 : css2.length = ys.length := hall2.len
  refine fn98 fun cx hu => ?_
  refine W_seq (W_reg ?_)
  simp only [r98_0, sx, Nat.reduceBEq, Nat.reduceAdd, Nat.reduceLeDiff, reduceCtorEq]
  refine W_seq ?_
  refine W_seq (W_reg ?_)
  simp only [r98_1, sx, Nat.reduceBEq, Nat.reduceAdd, Nat.reduceLeDiff, reduceCtorEq]
  refine W_cnd rfl (fun hc => ?_) (fun hc => W_skip ?_)
  · refine W_seq (W_reg ?_)
    simp only [r98_2, sx, Nat.reduceBEq, Nat.reduceAdd, Nat.reduceLeDiff, reduceCtorEq]
    refine W_ret (RetQ.outQ hu (mle_refl _) rfl trivial ⟨?_, rfl, rfl⟩)
    rw [decEq_len (by simp at hc; omega)]
  have hll : xs.length = ys.length := by simp at hc; omega
  clear hc
  refine W_seq ?_
  refine W_seq (W_reg ?_)
  simp only [r98_3, sx, Nat.reduceBEq, Nat.reduceAdd, Nat.reduceLeDiff, reduceCtorEq]
  refine (W_blk (W_loop (fun m e bx own u' => ∃ i, i ≤ xs.length ∧ m = xs.length - i ∧ St [(1, .slice a2 css2.length c2), (2, .func (.func g) #[] #[]), (15, .slice a css.length c), (16, ic css.length), (17, ic i)] [] (fun own u' => u' = u ∧ decide (xs = ys) = decide (xs.drop i = ys.drop i)) e bx own u') (m := xs.length) ⟨0, by omega, by omega, ?_⟩ ?_))
  · exact .mk ⟨rfl, rfl⟩
  rintro m e bx own u' ⟨i, hi, rfl, ⟨rfl, hs⟩⟩
  refine W_seq (W_reg ?_)
  simp only [r98_4, sx, Nat.reduceBEq, Nat.reduceAdd, Nat.reduceLeDiff, reduceCtorEq]
  refine W_seq (W_cnd rfl (fun hc => W_skip ?_) (fun hc => W_exit ?_))
  · have hlt : i < css.length := by simpa using hc
    have hlt2 : i < css2.length := by omega
    have hx : i < xs.length := by omega
    have hy : i < ys.length := by omega
    obtain ⟨o, off, rfl, hr⟩ := hrow (by intro q; simp [q] at hlt)
    obtain ⟨o2, off2, rfl, hr2⟩ := hrow2 (by intro q; simp [q] at hlt2)
    have hcell := SlC_at hr hlen hlt
    have hcell2 := SlC_at hr2 hlen2 hlt2
    have hxR := hall.at_ hlt hx
    have hyR := hall2.at_ hlt2 hy
    obtain ⟨v1, heq, hj⟩ := id hxR
    obtain ⟨v2, heq2, hj2⟩ := id hyR
    rw [heq] at hcell hxR
    rw [heq2] at hcell2 hyR
    rw [decEq_drop hx hy] at hs
    refine W_seq (W_blk ?_)
    refine W_seq (W_reg ?_)
    simp only [r98_5, r98_5a, r98_5b, r98_5c, r98_5d, sx, Nat.reduceBEq, Nat.reduceAdd, Nat.reduceLeDiff, reduceCtorEq]
    refine ⟨by omega, _, hcell.lrow, rfl, ?_⟩
    simp only [sx, Nat.reduceBEq, Nat.reduceAdd, Nat.reduceLeDiff, reduceCtorEq]
    intro blk8
    refine ⟨hj.one, ?_⟩
    refine W_seq (W_reg ?_)
    simp only [r98_6, r98_6a, r98_6b, r98_6c, sx, Nat.reduceBEq, Nat.reduceAdd, Nat.reduceLeDiff, reduceCtorEq]
    refine ⟨by omega, _, hcell2.lrow, rfl, ?_⟩
    simp only [sx, Nat.reduceBEq, Nat.reduceAdd, Nat.reduceLeDiff, reduceCtorEq]
    intro blk9
    refine ⟨hj2.one, ?_⟩
    refine W_seq (W_reg ?_)
    simp only [r98_7, r98_7a, sx, Nat.reduceBEq, Nat.reduceAdd, Nat.reduceLeDiff, reduceCtorEq]
    refine CallW.q (hf hxR hyR) ?_
    simp only [r98_7b, sx, Nat.reduceBEq, Nat.reduceAdd, Nat.reduceLeDiff, reduceCtorEq]
    refine W_cnd rfl (fun hb => ?_) (fun hb => W_skip ?_)
    · refine W_seq (W_reg ?_)
      simp only [r98_8, sx, Nat.reduceBEq, Nat.reduceAdd, Nat.reduceLeDiff, reduceCtorEq]
      refine W_ret (RetQ.outQ hu (mle_refl _) rfl trivial ⟨?_, rfl, rfl⟩)
      have : decide (xs[i] = ys[i]) = false := by simpa using hb
      rw [hs, this]; rfl
    · refine W_reg ?_
      simp only [r98_9, sx, Nat.reduceBEq, Nat.reduceAdd, Nat.reduceLeDiff, reduceCtorEq]
      rw [wrapS hlt hmax]
      refine ⟨_, by omega, i + 1, by omega, rfl, .mk ⟨rfl, ?_⟩⟩
      have : decide (xs[i] = ys[i]) = true := by simpa using hb
      rw [hs, this]; rfl
  · have hge : ¬ i < css.length := by simpa using hc
    rw [List.drop_eq_nil_of_le (by omega), List.drop_eq_nil_of_le (by omega)] at hs
    refine W_seq (W_reg ?_)
    simp only [r98_10, sx, Nat.reduceBEq, Nat.reduceAdd, Nat.reduceLeDiff, reduceCtorEq]
    refine W_ret (RetQ.outQ hu (mle_refl _) rfl trivial ⟨by rw [hs]; rfl, rfl, rfl⟩)
theorem eqfClaims {v w : Value} {xs ys : List Claim} {u : Mem} {g : FuncId} (hv : Sl 12 claimR (MU u) v xs) (hw : Sl 12 claimR (MU u) w ys) (hf : ∀ {cs cs' : List Value} {x y : Claim} {u : Mem}, claimR (MU u) cs x → claimR (MU u) cs' y → QFn Tryz.prog g [.agg cs.toArray, .agg cs'.toArray] u (.bool (decide (x = y)))) : QFn Tryz.prog 101 [v, w, .func (.func g) #[] #[]] u (.bool (decide (xs = ys))) := by
  obtain ⟨css, ⟨a, c, rfl, hmax, hcap, hrow, hlen⟩, hall⟩ := hv
  obtain ⟨css2, ⟨a2, c2, rfl, hmax2, hcap2, hrow2, hlen2⟩, hall2⟩ := hw
  have hl : css.length = xs.length := hall.len
  have hl2 : css2.length = ys.length := hall2.len
  refine fn101 fun cx hu => ?_
  refine W_seq (W_reg ?_)
  simp only [r101_0, sx, Nat.reduceBEq, Nat.reduceAdd, Nat.reduceLeDiff, reduceCtorEq]
  refine W_seq ?_
  refine W_seq (W_reg ?_)
  simp only [r101_1, sx, Nat.reduceBEq, Nat.reduceAdd, Nat.reduceLeDiff, reduceCtorEq]
  refine W_cnd rfl (fun hc => ?_) (fun hc => W_skip ?_)
  · refine W_seq (W_reg ?_)
    simp only [r101_2, sx, Nat.reduceBEq, Nat.reduceAdd, Nat.reduceLeDiff, reduceCtorEq]
    refine W_ret (RetQ.outQ hu (mle_refl _) rfl trivial ⟨?_, rfl, rfl⟩)
    rw [decEq_len (by simp at hc; omega)]
  have hll : xs.length = ys.length := by simp at hc; omega
  clear hc
  refine W_seq ?_
  refine W_seq (W_reg ?_)
  simp only [r101_3, sx, Nat.reduceBEq, Nat.reduceAdd, Nat.reduceLeDiff, reduceCtorEq]
  refine (W_blk (W_loop (fun m e bx own u' => ∃ i, i ≤ xs.length ∧ m = xs.length - i ∧ St [(1, .slice a2 css2.length c2), (2, .func (.func g) #[] #[]), (15, .slice a css.length c), (16, ic css.length), (17, ic i)] [] (fun own u' => u' = u ∧ decide (xs = ys) = decide (xs.drop i = ys.drop i)) e bx own u') (m := xs.length) ⟨0, by omega, by omega, ?_⟩ ?_))
  · exact .mk ⟨rfl, rfl⟩
  rintro m e bx own u' ⟨i, hi, rfl, ⟨rfl, hs⟩⟩
  refine W_seq (W_reg ?_)
  simp only [r101_4, sx, Nat.reduceBEq, Nat.reduceAdd, Nat.reduceLeDiff, reduceCtorEq]
  refine W_seq (W_cnd rfl (fun hc => W_skip ?_) (fun hc => W_exit ?_))
  · have hlt : i < css.length := by simpa using hc
    have hlt2 : i < css2.length := by omega
    have hx : i < xs.length := by omega
    have hy : i < ys.length := by omega
    obtain ⟨o, off, rfl, hr⟩ := hrow (by intro q; simp [q] at hlt)
    obtain ⟨o2, off2, rfl, hr2⟩ := hrow2 (by intro q; simp [q] at hlt2)
    have hcell := SlC_at hr hlen hlt
    have hcell2 := SlC_at hr2 hlen2 hlt2
    have hxR := hall.at_ hlt hx
    have hyR := hall2.at_ hlt2 hy
    obtain ⟨v1, w1, heq, hj, hk⟩ := id hxR
    obtain ⟨v2, w2, heq2, hj2, hk2⟩ := id hyR
    rw [heq] at hcell hxR
    rw [heq2] at hcell2 hyR
    rw [decEq_drop hx hy] at hs
    refine W_seq (W_blk ?_)
    refine W_seq (W_reg ?_)
    simp only [r101_5, r101_5a, r101_5b, r101_5c, r101_5d, sx, Nat.reduceBEq, Nat.reduceAdd, Nat.reduceLeDiff, reduceCtorEq]
    refine ⟨by omega, _, hcell.lrow, rfl, ?_⟩
    simp only [sx, Nat.reduceBEq, Nat.reduceAdd, Nat.reduceLeDiff, reduceCtorEq]
    intro blk8
    refine ⟨⟨hj.one, hk.one⟩, ?_⟩
    refine W_seq (W_reg ?_)
    simp only [r101_6, r101_6a, r101_6b, r101_6c, sx, Nat.reduceBEq, Nat.reduceAdd, Nat.reduceLeDiff, reduceCtorEq]
    refine ⟨by omega, _, hcell2.lrow, rfl, ?_⟩
    simp only [sx, Nat.reduceBEq, Nat.reduceAdd, Nat.reduceLeDiff, reduceCtorEq]
    intro blk9
    refine ⟨⟨hj2.one, hk2.one⟩, ?_⟩
    refine W_seq (W_reg ?_)
    simp only [r101_7, r101_7a, sx, Nat.reduceBEq, Nat.reduceAdd, Nat.reduceLeDiff, reduceCtorEq]
    refine CallW.q (hf hxR hyR) ?_
    simp only [r101_7b, sx, Nat.reduceBEq, Nat.reduceAdd, Nat.reduceLeDiff, reduceCtorEq]
    refine W_cnd rfl (fun hb => ?_) (fun hb => W_skip ?_)
    · refine W_seq (W_reg ?_)
      simp only [r101_8, sx, Nat.reduceBEq, Nat.reduceAdd, Nat.reduceLeDiff, reduceCtorEq]
      refine W_ret (RetQ.outQ hu (mle_refl _) rfl trivial ⟨?_, rfl, rfl⟩)
      have : decide (xs[i] = ys[i]) = false := by simpa using hb
      rw [hs, this]; rfl
    · refine W_reg ?_
      simp only [r101_9, sx, Nat.reduceBEq, Nat.reduceAdd, Nat.reduceLeDiff, reduceCtorEq]
      rw [wrapS hlt hmax]
      refine ⟨_, by omega, i + 1, by omega, rfl, .mk ⟨rfl, ?_⟩⟩
      have : decide (xs[i] = ys[i]) = true := by simpa using hb
      rw [hs, this]; rfl
  · have hge : ¬ i < css.length := by simpa using hc
    rw [List.drop_eq_nil_of_le (by omega), List.drop_eq_nil_of_le (by omega)] at hs
    refine W_seq (W_reg ?_)
    simp only [r101_10, sx, Nat.reduceBEq, Nat.reduceAdd, Nat.reduceLeDiff, reduceCtorEq]
    refine W_ret (RetQ.outQ hu (mle_refl _) rfl trivial ⟨by rw [hs]; rfl, rfl, rfl⟩)
theorem eqfCircles {v w : Value} {xs ys : List Circle} {u : Mem} {g : FuncId} (hv : Sl 15 circleR (MU u) v xs) (hw : Sl 15 circleR (MU u) w ys) (hf : ∀ {cs cs' : List Value} {x y : Circle} {u : Mem}, circleR (MU u) cs x → circleR (MU u) cs' y → QFn Tryz.prog g [.agg cs.toArray, .agg cs'.toArray] u (.bool (decide (x = y)))) : QFn Tryz.prog 49 [v, w, .func (.func g) #[] #[]] u (.bool (decide (xs = ys))) := by
  obtain ⟨css, ⟨a, c, rfl, hmax, hcap, hrow, hlen⟩, hall⟩ := hv
  obtain ⟨css2, ⟨a2, c2, rfl, hmax2, hcap2, hrow2, hlen2⟩, hall2⟩ := hw
  have hl : css.length = xs.length := hall.len
  have hl2 : css2.length = ys.length := hall2.len
  refine fn49 fun cx hu => ?_
  refine W_seq (W_reg ?_)
  simp only [r49_0, sx, Nat.reduceBEq, Nat.reduceAdd, Nat.reduceLeDiff, reduceCtorEq]
  refine W_seq ?_
  refine W_seq (W_reg ?_)
  simp only [r49_1, sx, Nat.reduceBEq, Nat.reduceAdd, Nat.reduceLeDiff, reduceCtorEq]
  refine W_cnd rfl (fun hc => ?_) (fun hc => W_skip ?_)
  · refine W_seq (W_reg ?_)
    simp only [r49_2, sx, Nat.reduceBEq, Nat.reduceAdd, Nat.reduceLeDiff, reduceCtorEq]
    refine W_ret (RetQ.outQ hu (mle_refl _) rfl trivial ⟨?_, rfl, rfl⟩)
    rw [decEq_len (by simp at hc; omega)]
  have hll : xs.length = ys.length := by simp at hc; omega
  clear hc
  refine W_seq ?_
  refine W_seq (W_reg ?_)
  simp only [r49_3, sx, Nat.reduceBEq, Nat.reduceAdd, Nat.reduceLeDiff, reduceCtorEq]
  refine (W_blk (W_loop (fun m e bx own u' => ∃ i, i ≤ xs.length ∧ m = xs.length - i ∧ St [(1, .slice a2 css2.length c2), (2, .func (.func g) #[] #[]), (15, .slice a css.length c), (16, ic css.length), (17, ic i)] [] (fun own u' => u' = u ∧ decide (xs = ys) = decide (xs.drop i = ys.drop i)) e bx own u') (m := xs.length) ⟨0, by omega, by omega, ?_⟩ ?_))
  · exact .mk ⟨rfl, rfl⟩
  rintro m e bx own u' ⟨i, hi, rfl, ⟨rfl, hs⟩⟩
  refine W_seq (W_reg ?_)
  simp only [r49_4, sx, Nat.reduceBEq, Nat.reduceAdd, Nat.reduceLeDiff, reduceCtorEq]
  refine W_seq (W_cnd rfl (fun hc => W_skip ?_) (fun hc => W_exit ?_))
  · have hlt : i < css.length := by simpa using hc
    have hlt2 : i < css2.length := by omega
    have hx : i < xs.length := by omega
    have hy : i < ys.length := by omega
    obtain ⟨o, off, rfl, hr⟩ := hrow (by intro q; simp [q] at hlt)
    obtain ⟨o2, off2, rfl, hr2⟩ := hrow2 (by intro q; simp [q] at hlt2)
    have hcell := SlC_at hr hlen hlt
    have hcell2 := SlC_at hr2 hlen2 hlt2
    have hxR := hall.at_ hlt hx
    have hyR := hall2.at_ hlt2 hy
    obtain ⟨vm, vp, vb, vt, vo, vu, vq, vc, heq, ht, hm, hp, hb_, htu, hpo, hou, hq, hcl⟩ := id hxR
    obtain ⟨vm2, vp2, vb2, vt2, vo2, vu2, vq2, vc2, heq2, ht2, hm2, hp2, hb2, htu2, hpo2, hou2, hq2, hcl2⟩ := id hyR
    rw [heq] at hcell hxR
    rw [heq2] at hcell2 hyR
    rw [decEq_drop hx hy] at hs
    refine W_seq (W_blk ?_)
    refine W_seq (W_reg ?_)
    simp only [r49_5, r49_5a, r49_5b, r49_5c, r49_5d, sx, Nat.reduceBEq, Nat.reduceAdd, Nat.reduceLeDiff, reduceCtorEq]
    refine ⟨by omega, _, hcell.lrow, rfl, ?_⟩
    simp only [sx, Nat.reduceBEq, Nat.reduceAdd, Nat.reduceLeDiff, reduceCtorEq]
    intro blk8
    refine ⟨⟨hm.one, hp.one, hb_.one, htu.one, hpo.one, hou.one, hq.one, hcl.one⟩, ?_⟩
    refine W_seq (W_reg ?_)
    simp only [r49_6, r49_6a, r49_6b, r49_6c, sx, Nat.reduceBEq, Nat.reduceAdd, Nat.reduceLeDiff, reduceCtorEq]
    refine ⟨by omega, _, hcell2.lrow, rfl, ?_⟩
    simp only [sx, Nat.reduceBEq, Nat.reduceAdd, Nat.reduceLeDiff, reduceCtorEq]
    intro blk9
    refine ⟨⟨hm2.one, hp2.one, hb2.one, htu2.one, hpo2.one, hou2.one, hq2.one, hcl2.one⟩, ?_⟩
    refine W_seq (W_reg ?_)
    simp only [r49_7, r49_7a, sx, Nat.reduceBEq, Nat.reduceAdd, Nat.reduceLeDiff, reduceCtorEq]
    refine CallW.q (hf hxR hyR) ?_
    simp only [r49_7b, sx, Nat.reduceBEq, Nat.reduceAdd, Nat.reduceLeDiff, reduceCtorEq]
    refine W_cnd rfl (fun hb => ?_) (fun hb => W_skip ?_)
    · refine W_seq (W_reg ?_)
      simp only [r49_8, sx, Nat.reduceBEq, Nat.reduceAdd, Nat.reduceLeDiff, reduceCtorEq]
      refine W_ret (RetQ.outQ hu (mle_refl _) rfl trivial ⟨?_, rfl, rfl⟩)
      have : decide (xs[i] = ys[i]) = false := by simpa using hb
      rw [hs, this]; rfl
    · refine W_reg ?_
      simp only [r49_9, sx, Nat.reduceBEq, Nat.reduceAdd, Nat.reduceLeDiff, reduceCtorEq]
      rw [wrapS hlt hmax]
      refine ⟨_, by omega, i + 1, by omega, rfl, .mk ⟨rfl, ?_⟩⟩
      have : decide (xs[i] = ys[i]) = true := by simpa using hb
      rw [hs, this]; rfl
  · have hge : ¬ i < css.length := by simpa using hc
    rw [List.drop_eq_nil_of_le (by omega), List.drop_eq_nil_of_le (by omega)] at hs
    refine W_seq (W_reg ?_)
    simp only [r49_10, sx, Nat.reduceBEq, Nat.reduceAdd, Nat.reduceLeDiff, reduceCtorEq]
    refine W_ret (RetQ.outQ hu (mle_refl _) rfl trivial ⟨by rw [hs]; rfl, rfl, rfl⟩)
end Go.Proofs.YtenmmfkgopffgaaGreatDoor

set_option maxRecDepth 4000
namespace Go.Proofs.YtenmmfkgopffgaaGreatDoor
open Go

theorem same95 {cs cs' : List Value} {x y : Member} {u : Mem} (hx : memberR (MU u) cs x) (hy : memberR (MU u) cs' y) : QFn Tryz.prog 95 [.agg cs.toArray, .agg cs'.toArray] u (.bool (decide (x = y))) := by
  obtain ⟨v, rfl, hj⟩ := hx
  obtain ⟨w, rfl, hk⟩ := hy
  refine fn95 fun cx hu => ?_
  refine W_seq (W_reg ?_)
  simp only [r95_0, r95_0a, r95_0b, sx, Nat.reduceBEq, Nat.reduceAdd, Nat.reduceLeDiff, reduceCtorEq]
  intro b1 b2
  refine W_seq (W_reg ?_)
  simp only [r95_1, r95_1a, sx, Nat.reduceBEq, Nat.reduceAdd, Nat.reduceLeDiff, reduceCtorEq]
  refine ⟨_, fun _ => eqInts hj hk, ?_⟩
  simp only [r95_1b, sx, Nat.reduceBEq, Nat.reduceAdd, Nat.reduceLeDiff, reduceCtorEq]
  refine W_ret (RetQ.outQ hu (mle_refl _) rfl trivial ⟨?_, rfl, rfl⟩)
  simp only [Bool.cond_false_right]
  rcases x with ⟨⟩
  rcases y with ⟨⟩
  congr 1
  rw [Bool.eq_iff_iff]; simp [and_assoc]
theorem same99 {cs cs' : List Value} {x y : Proposal} {u : Mem} (hx : proposalR (MU u) cs x) (hy : proposalR (MU u) cs' y) : QFn Tryz.prog 99 [.agg cs.toArray, .agg cs'.toArray] u (.bool (decide (x = y))) := by
  obtain ⟨v, rfl, hj⟩ := hx
  obtain ⟨w, rfl, hk⟩ := hy
  refine fn99 fun cx hu => ?_
  refine W_seq (W_reg ?_)
  simp only [r99_0, r99_0a, r99_0b, sx, Nat.reduceBEq, Nat.reduceAdd, Nat.reduceLeDiff, reduceCtorEq]
  intro b1 b2
  refine W_seq (W_reg ?_)
  simp only [r99_1, r99_1a, sx, Nat.reduceBEq, Nat.reduceAdd, Nat.reduceLeDiff, reduceCtorEq]
  refine ⟨_, fun _ => eqVoices hj hk, ?_⟩
  simp only [r99_1b, sx, Nat.reduceBEq, Nat.reduceAdd, Nat.reduceLeDiff, reduceCtorEq]
  refine W_ret (RetQ.outQ hu (mle_refl _) rfl trivial ⟨?_, rfl, rfl⟩)
  simp only [Bool.cond_false_right]
  rcases x with ⟨⟩
  rcases y with ⟨⟩
  congr 1
  rw [Bool.eq_iff_iff]; simp [and_assoc]; grind
theorem same102 {cs cs' : List Value} {x y : Claim} {u : Mem} (hx : claimR (MU u) cs x) (hy : claimR (MU u) cs' y) : QFn Tryz.prog 102 [.agg cs.toArray, .agg cs'.toArray] u (.bool (decide (x = y))) := by
  obtain ⟨v, v', rfl, hj, hj'⟩ := hx
  obtain ⟨w, w', rfl, hk, hk'⟩ := hy
  refine fn102 fun cx hu => ?_
  refine W_seq (W_reg ?_)
  simp only [r102_0, r102_0a, r102_0b, sx, Nat.reduceBEq, Nat.reduceAdd, Nat.reduceLeDiff, reduceCtorEq]
  intro b1 b2
  refine W_seq (W_reg ?_)
  simp only [r102_1, sx, Nat.reduceBEq, Nat.reduceAdd, Nat.reduceLeDiff, reduceCtorEq]
  refine W_seq (W_reg ?_)
  simp only [r102_2, r102_2a, sx, Nat.reduceBEq, Nat.reduceAdd, Nat.reduceLeDiff, reduceCtorEq]
  refine ⟨_, fun _ => eqInts hj hk, ?_⟩
  simp only [r102_2b, r102_2c, sx, Nat.reduceBEq, Nat.reduceAdd, Nat.reduceLeDiff, reduceCtorEq]
  refine ⟨_, fun _ => eqInts hj' hk', ?_⟩
  simp only [r102_2d, sx, Nat.reduceBEq, Nat.reduceAdd, Nat.reduceLeDiff, reduceCtorEq]
  refine W_ret (RetQ.outQ hu (mle_refl _) rfl trivial ⟨?_, rfl, rfl⟩)
  simp only [Bool.cond_false_right]
  rcases x with ⟨⟩
  rcases y with ⟨⟩
  congr 1
  rw [Bool.eq_iff_iff]; simp [and_assoc]; grind
theorem text_eq (s t : ByteArray) : (s.toList == t.toList) = decide (s = t) := by
  rw [ByteArray.toList_eq, ByteArray.toList_eq, Bool.eq_iff_iff]
  simp only [beq_iff_eq, decide_eq_true_eq]
  constructor
  · intro h
    obtain ⟨⟨l⟩⟩ := s; obtain ⟨⟨m⟩⟩ := t
    simp at h; rw [h]
  · intro h; rw [h]
theorem same50 {cs cs' : List Value} {x y : Circle} {u : Mem} (hx : circleR (MU u) cs x) (hy : circleR (MU u) cs' y) : QFn Tryz.prog 50 [.agg cs.toArray, .agg cs'.toArray] u (.bool (decide (x = y))) := by
  obtain ⟨vm, vp, vb, vt, vo, vu, vq, vc, rfl, ht, hm, hp, hb_, htu, hpo, hou, hq, hcl⟩ := hx
  obtain ⟨vm2, vp2, vb2, vt2, vo2, vu2, vq2, vc2, rfl, ht2, hm2, hp2, hb2, htu2, hpo2, hou2, hq2, hcl2⟩ := hy
  refine fn50 fun cx hu => ?_
  refine W_seq (W_reg ?_)
  simp only [r50_0, r50_0a, r50_0b, sx, Nat.reduceBEq, Nat.reduceAdd, Nat.reduceLeDiff, reduceCtorEq]
  intro b1 b2
  refine W_seq (W_reg ?_)
  simp only [r50_1, text_eq, sx, Nat.reduceBEq, Nat.reduceAdd, Nat.reduceLeDiff, reduceCtorEq]
  refine W_seq (W_reg ?_)
  simp only [r50_2, r50_2a, sx, Nat.reduceBEq, Nat.reduceAdd, Nat.reduceLeDiff, reduceCtorEq]
  refine ⟨_, eqfMembers hm hm2 same95, ?_⟩
  simp only [r50_2b, sx, Nat.reduceBEq, Nat.reduceAdd, Nat.reduceLeDiff, reduceCtorEq]
  refine W_seq (W_reg ?_)
  simp only [r50_3, r50_3a, sx, Nat.reduceBEq, Nat.reduceAdd, Nat.reduceLeDiff, reduceCtorEq]
  refine ⟨_, eqPaid hp hp2, ?_⟩
  simp only [r50_3b, r50_3c, sx, Nat.reduceBEq, Nat.reduceAdd, Nat.reduceLeDiff, reduceCtorEq]
  refine ⟨_, fun _ => eqBids hb_ hb2, ?_⟩
  simp only [r50_3d, r50_3e, sx, Nat.reduceBEq, Nat.reduceAdd, Nat.reduceLeDiff, reduceCtorEq]
  refine ⟨_, fun _ => eqInts htu htu2, ?_⟩
  simp only [r50_3f, r50_3g, sx, Nat.reduceBEq, Nat.reduceAdd, Nat.reduceLeDiff, reduceCtorEq]
  refine ⟨_, fun _ => eqInts hpo hpo2, ?_⟩
  simp only [r50_3h, r50_3i, sx, Nat.reduceBEq, Nat.reduceAdd, Nat.reduceLeDiff, reduceCtorEq]
  refine ⟨_, fun _ => eqInts hou hou2, ?_⟩
  simp only [r50_3j, sx, Nat.reduceBEq, Nat.reduceAdd, Nat.reduceLeDiff, reduceCtorEq]
  refine W_seq (W_reg ?_)
  simp only [r50_4, r50_4a, sx, Nat.reduceBEq, Nat.reduceAdd, Nat.reduceLeDiff, reduceCtorEq]
  refine ⟨_, eqfProposals hq hq2 same99, ?_⟩
  simp only [r50_4b, sx, Nat.reduceBEq, Nat.reduceAdd, Nat.reduceLeDiff, reduceCtorEq]
  refine W_seq (W_reg ?_)
  simp only [r50_5, r50_5a, sx, Nat.reduceBEq, Nat.reduceAdd, Nat.reduceLeDiff, reduceCtorEq]
  refine ⟨_, fun _ => eqfClaims hcl hcl2 same102, ?_⟩
  simp only [r50_5b, sx, Nat.reduceBEq, Nat.reduceAdd, Nat.reduceLeDiff, reduceCtorEq]
  refine W_ret (RetQ.outQ hu (mle_refl _) rfl trivial ⟨?_, rfl, rfl⟩)
  simp only [Bool.cond_false_right]
  rcases x with ⟨⟩
  rcases y with ⟨⟩
  congr 1
  rw [Bool.eq_iff_iff]; simp [and_assoc]; grind
theorem same_c {cs cs' : List Value} {x y : State} {u : Mem} (hx : stateR (MU u) cs x) (hy : stateR (MU u) cs' y) : QFn Tryz.prog 12 [.agg cs.toArray, .agg cs'.toArray] u (.bool (decide (x = y))) := by
  obtain ⟨vk, vc, vl, vv, rfl, hk, hc, hl, hv⟩ := hx
  obtain ⟨vk2, vc2, vl2, vv2, rfl, hk2, hc2, hl2, hv2⟩ := hy
  refine fn12 fun cx hu => ?_
  refine W_seq (W_reg ?_)
  simp only [r12_0, r12_0a, r12_0b, sx, Nat.reduceBEq, Nat.reduceAdd, Nat.reduceLeDiff, reduceCtorEq]
  intro b1 b2
  refine W_seq (W_reg ?_)
  simp only [r12_1, r12_1a, sx, Nat.reduceBEq, Nat.reduceAdd, Nat.reduceLeDiff, reduceCtorEq]
  refine ⟨_, fun _ => eqInts hk hk2, ?_⟩
  simp only [r12_1b, r12_1c, sx, Nat.reduceBEq, Nat.reduceAdd, Nat.reduceLeDiff, reduceCtorEq]
  refine ⟨_, fun _ => eqfCircles hc hc2 same50, ?_⟩
  simp only [r12_1d, r12_1e, sx, Nat.reduceBEq, Nat.reduceAdd, Nat.reduceLeDiff, reduceCtorEq]
  refine ⟨_, fun _ => eqLots hl hl2, ?_⟩
  simp only [r12_1f, r12_1g, sx, Nat.reduceBEq, Nat.reduceAdd, Nat.reduceLeDiff, reduceCtorEq]
  refine ⟨_, fun _ => eqVoids hv hv2, ?_⟩
  simp only [r12_1h, sx, Nat.reduceBEq, Nat.reduceAdd, Nat.reduceLeDiff, reduceCtorEq]
  refine W_ret (RetQ.outQ hu (mle_refl _) rfl trivial ⟨?_, rfl, rfl⟩)
  simp only [Bool.cond_false_right]
  rcases x with ⟨⟩
  rcases y with ⟨⟩
  congr 1
  rw [Bool.eq_iff_iff]; simp [and_assoc]
end Go.Proofs.YtenmmfkgopffgaaGreatDoor

set_option maxRecDepth 4000
namespace Go.Proofs.YtenmmfkgopffgaaGreatDoor
open Go

theorem refInts {v w : Value} {xs ys : List Int} {u : Mem} (hv : Ints (MU u) v xs) (hw : Ints (MU u) w ys) : QFn Tryz.prog 46 [v, w] u (.bool (decide (xs = ys))) := by
  obtain ⟨a, c, rfl, hmax, hcap, hrow, hlen⟩ := hv
  obtain ⟨a2, c2, rfl, hmax2, hcap2, hrow2, hlen2⟩ := hw
  simp only [List.length_map] at hmax hcap hmax2 hcap2
  refine fn46 fun cx hu => ?_
  refine W_seq (W_reg ?_)
  simp only [r46_0, sx, Nat.reduceBEq, Nat.reduceAdd, Nat.reduceLeDiff, reduceCtorEq]
  refine W_seq ?_
  refine W_seq (W_reg ?_)
  simp only [r46_1, sx, Nat.reduceBEq, Nat.reduceAdd, Nat.reduceLeDiff, reduceCtorEq]
  refine W_cnd rfl (fun hc => ?_) (fun hc => W_skip ?_)
  · refine W_seq (W_reg ?_)
    simp only [r46_2, sx, Nat.reduceBEq, Nat.reduceAdd, Nat.reduceLeDiff, reduceCtorEq]
    refine W_ret (RetQ.outQ hu (mle_refl _) rfl trivial ⟨?_, rfl, rfl⟩)
    rw [decEq_len (by simp at hc; omega)]
  have hll : xs.length = ys.length := by simp at hc; omega
  clear hc
  refine W_seq ?_
  refine W_seq (W_reg ?_)
  simp only [r46_3, sx, Nat.reduceBEq, Nat.reduceAdd, Nat.reduceLeDiff, reduceCtorEq]
  refine (W_blk (W_loop (fun m e bx own u' => ∃ i, i ≤ xs.length ∧ m = xs.length - i ∧ St [(0, .slice a xs.length c), (1, .slice a2 ys.length c2), (5, ic i)] [] (fun own u' => u' = u ∧ decide (xs = ys) = decide (xs.drop i = ys.drop i)) e bx own u') (m := xs.length) ⟨0, by omega, by omega, ?_⟩ ?_))
  · simp only [List.length_map]; exact .mk ⟨rfl, rfl⟩
  rintro m e bx own u' ⟨i, hi, rfl, ⟨rfl, hs⟩⟩
  refine W_seq ?_
  refine W_seq (W_reg ?_)
  simp only [r46_4, sx, Nat.reduceBEq, Nat.reduceAdd, Nat.reduceLeDiff, reduceCtorEq]
  refine (W_cnd rfl (fun hc => W_skip ?_) (fun hc => W_exit ?_))
  · have hlt : i < xs.length := by simpa using hc
    have hlt2 : i < ys.length := by omega
    obtain ⟨o, off, rfl, hr⟩ := hrow (map_ne hlt)
    obtain ⟨o2, off2, rfl, hr2⟩ := hrow2 (map_ne hlt2)
    have hcell := SlC_at hr hlen (by simpa using hlt)
    have hcell2 := SlC_at hr2 hlen2 (by simpa using hlt2)
    rw [List.getElem_map] at hcell hcell2
    rw [decEq_drop hlt hlt2] at hs
    refine W_seq (W_blk ?_)
    refine W_seq (W_drw (drawOK mixedP) ?_)
    simp only [WSD, A.wpD, r46_6, r46_6a, r46_6b, r46_6c, r46_6d, sx, Nat.reduceBEq, Nat.reduceAdd, Nat.reduceLeDiff, reduceCtorEq]
    refine ⟨by omega, i1 xs[i], hcell.lrow, rfl, ?_⟩
    refine ⟨by omega, i1 ys[i], hcell2.lrow, rfl, ?_⟩
    simp only [sx, Nat.reduceBEq, Nat.reduceAdd, Nat.reduceLeDiff, reduceCtorEq]
    have hq : (xs[i] == ys[i]) = decide (xs[i] = ys[i]) := by rw [Bool.eq_iff_iff]; simp
    simp only [bne]; rw [hq]
    refine W_cnd rfl (fun hb => ?_) (fun hb => W_skip ?_)
    · refine W_seq (W_reg ?_)
      simp only [r46_7, sx, Nat.reduceBEq, Nat.reduceAdd, Nat.reduceLeDiff, reduceCtorEq]
      refine W_ret (RetQ.outQ hu (mle_refl _) rfl trivial ⟨?_, rfl, rfl⟩)
      have : decide (xs[i] = ys[i]) = false := by simpa using hb
      rw [hs, this]; rfl
    · refine W_reg ?_
      simp only [r46_5, sx, Nat.reduceBEq, Nat.reduceAdd, Nat.reduceLeDiff, reduceCtorEq]
      rw [wrapS hlt hmax]
      refine ⟨_, by omega, i + 1, by omega, rfl, .mk ⟨rfl, ?_⟩⟩
      have : decide (xs[i] = ys[i]) = true := by simpa using hb
      rw [hs, this]; rfl
  · have hge : ¬ i < xs.length := by simpa using hc
    rw [List.drop_eq_nil_of_le (by omega), List.drop_eq_nil_of_le (by omega)] at hs
    refine W_seq (W_reg ?_)
    simp only [r46_8, sx, Nat.reduceBEq, Nat.reduceAdd, Nat.reduceLeDiff, reduceCtorEq]
    refine W_ret (RetQ.outQ hu (mle_refl _) rfl trivial ⟨by rw [hs]; rfl, rfl, rfl⟩)
theorem same91 {cs cs' : List Value} {x y : Member} {u : Mem} (hx : memberR (MU u) cs x) (hy : memberR (MU u) cs' y) : QFn Tryz.prog 91 [.agg cs.toArray, .agg cs'.toArray] u (.bool (decide (x = y))) := by
  obtain ⟨v, rfl, hj⟩ := hx
  obtain ⟨w, rfl, hk⟩ := hy
  refine fn91 fun cx hu => ?_
  refine W_seq (W_reg ?_)
  simp only [r91_0, r91_0a, r91_0b, sx, Nat.reduceBEq, Nat.reduceAdd, Nat.reduceLeDiff, reduceCtorEq]
  intro b1 b2
  refine W_seq (W_reg ?_)
  simp only [r91_1, r91_1a, sx, Nat.reduceBEq, Nat.reduceAdd, Nat.reduceLeDiff, reduceCtorEq]
  refine ⟨_, fun _ => refInts hj hk, ?_⟩
  simp only [r91_1b, sx, Nat.reduceBEq, Nat.reduceAdd, Nat.reduceLeDiff, reduceCtorEq]
  refine W_ret (RetQ.outQ hu (mle_refl _) rfl trivial ⟨?_, rfl, rfl⟩)
  simp only [Bool.cond_false_right]
  rcases x with ⟨⟩
  rcases y with ⟨⟩
  congr 1
  rw [Bool.eq_iff_iff]; simp [and_assoc]; grind
theorem same93 {cs cs' : List Value} {x y : Claim} {u : Mem} (hx : claimR (MU u) cs x) (hy : claimR (MU u) cs' y) : QFn Tryz.prog 93 [.agg cs.toArray, .agg cs'.toArray] u (.bool (decide (x = y))) := by
  obtain ⟨v, v', rfl, hj, hj'⟩ := hx
  obtain ⟨w, w', rfl, hk, hk'⟩ := hy
  refine fn93 fun cx hu => ?_
  refine W_seq (W_reg ?_)
  simp only [r93_0, r93_0a, r93_0b, sx, Nat.reduceBEq, Nat.reduceAdd, Nat.reduceLeDiff, reduceCtorEq]
  intro b1 b2
  refine W_seq ?_
  refine W_seq (W_reg ?_)
  simp only [r93_1, sx, Nat.reduceBEq, Nat.reduceAdd, Nat.reduceLeDiff, reduceCtorEq]
  rcases x with ⟨⟩
  rcases y with ⟨⟩
  refine W_cnd rfl (fun hb => ?_) (fun hb => W_skip ?_)
  · refine W_seq (W_reg ?_)
    simp only [r93_2, sx, Nat.reduceBEq, Nat.reduceAdd, Nat.reduceLeDiff, reduceCtorEq]
    refine W_ret (RetQ.outQ hu (mle_refl _) rfl trivial ⟨?_, rfl, rfl⟩)
    congr 1
    simp only [Bool.cond_true_left] at hb
    simp at hb
    simp; grind
  refine W_seq (W_reg ?_)
  simp only [r93_3, r93_3a, sx, Nat.reduceBEq, Nat.reduceAdd, Nat.reduceLeDiff, reduceCtorEq]
  refine ⟨_, fun _ => refInts hj hk, ?_⟩
  simp only [r93_3b, r93_3c, sx, Nat.reduceBEq, Nat.reduceAdd, Nat.reduceLeDiff, reduceCtorEq]
  refine ⟨_, fun _ => refInts hj' hk', ?_⟩
  simp only [r93_3d, sx, Nat.reduceBEq, Nat.reduceAdd, Nat.reduceLeDiff, reduceCtorEq]
  refine W_ret (RetQ.outQ hu (mle_refl _) rfl trivial ⟨?_, rfl, rfl⟩)
  simp only [Bool.cond_false_right, Bool.cond_true_left] at hb ⊢
  congr 1
  rw [Bool.eq_iff_iff]; simp at hb; simp [and_assoc]; grind
end Go.Proofs.YtenmmfkgopffgaaGreatDoor

set_option maxRecDepth 4000
namespace Go.Proofs.YtenmmfkgopffgaaGreatDoor
open Go

theorem same92 {cs cs' : List Value} {x y : Proposal} {u : Mem} (hx : proposalR (MU u) cs x) (hy : proposalR (MU u) cs' y) : QFn Tryz.prog 92 [.agg cs.toArray, .agg cs'.toArray] u (.bool (decide (x = y))) := by
  obtain ⟨v, rfl, a, c, rfl, hmax, hcap, hrow, hlen⟩ := hx
  obtain ⟨w, rfl, a2, c2, rfl, hmax2, hcap2, hrow2, hlen2⟩ := hy
  simp only [List.length_map] at hmax hcap hmax2 hcap2
  refine fn92 fun cx hu => ?_
  refine W_seq (W_reg ?_)
  simp only [r92_0, r92_0a, r92_0b, sx, Nat.reduceBEq, Nat.reduceAdd, Nat.reduceLeDiff, reduceCtorEq]
  intro b1 b2
  refine W_seq ?_
  refine W_seq (W_reg ?_)
  simp only [r92_1, sx, Nat.reduceBEq, Nat.reduceAdd, Nat.reduceLeDiff, reduceCtorEq]
  obtain ⟨m1, d1, k1, xs, dn1⟩ := x
  obtain ⟨m2, d2, k2, ys, dn2⟩ := y
  simp only at hmax hcap hrow hlen hmax2 hcap2 hrow2 hlen2 ⊢
  refine W_cnd rfl (fun hb => ?_) (fun hb => W_skip ?_)
  · refine W_seq (W_reg ?_)
    simp only [r92_2, sx, Nat.reduceBEq, Nat.reduceAdd, Nat.reduceLeDiff, reduceCtorEq]
    refine W_ret (RetQ.outQ hu (mle_refl _) rfl trivial ⟨?_, rfl, rfl⟩)
    congr 1
    simp only [Bool.cond_true_left] at hb
    simp at hb
    simp; grind
  have hE : m1 = m2 ∧ d1 = d2 ∧ k1 = k2 ∧ dn1 = dn2 ∧ xs.length = ys.length := by
    simp only [Bool.cond_true_left] at hb
    simp at hb
    omega
  clear hb
  obtain ⟨rfl, rfl, rfl, rfl, hll⟩ := hE
  have hG : decide (({ mark := m1, day := d1, kind := k1, voices := xs, done := dn1 } : Proposal) = { mark := m1, day := d1, kind := k1, voices := ys, done := dn1 }) = decide (xs = ys) := by simp
  rw [hG]
  refine W_seq ?_
  refine W_seq (W_reg ?_)
  simp only [r92_3, sx, Nat.reduceBEq, Nat.reduceAdd, Nat.reduceLeDiff, reduceCtorEq]
  refine (W_blk (W_loop (fun m e bx own u' => ∃ i, i ≤ xs.length ∧ m = xs.length - i ∧ St [(2, .pointer (some ⟨b1, 0, none⟩)), (3, .pointer (some ⟨b2, 0, none⟩)), (5, ic i)] [⟨3, b2, [ic m1, ic d1, ic k1, .slice a2 (ys.map voiceC).length c2, ic dn1], 63⟩, ⟨2, b1, [ic m1, ic d1, ic k1, .slice a (xs.map voiceC).length c, ic dn1], 63⟩] (fun own u' => u' = u ∧ decide (xs = ys) = decide (xs.drop i = ys.drop i)) e bx own u') (m := xs.length) ⟨0, by omega, by omega, ?_⟩ ?_))
  · exact .mk ⟨rfl, rfl⟩
  rintro m e bx own u' ⟨i, hi, rfl, ⟨rfl, hs⟩⟩
  refine W_seq ?_
  refine W_seq (W_reg ?_)
  simp only [r92_4, sx, Nat.reduceBEq, Nat.reduceAdd, Nat.reduceLeDiff, reduceCtorEq]
  refine (W_cnd rfl (fun hc => W_skip ?_) (fun hc => W_exit ?_))
  · have hlt : i < xs.length := by simpa using hc
    have hlt2 : i < ys.length := by omega
    obtain ⟨o, off, rfl, hr⟩ := hrow (map_ne hlt)
    obtain ⟨o2, off2, rfl, hr2⟩ := hrow2 (map_ne hlt2)
    have hcell := SlC_at hr hlen (by simpa using hlt)
    have hcell2 := SlC_at hr2 hlen2 (by simpa using hlt2)
    rw [List.getElem_map] at hcell hcell2
    rw [decEq_drop hlt hlt2] at hs
    refine W_seq (W_blk ?_)
    refine W_seq (W_drw (drawOK mixedP) ?_)
    simp only [WSD, A.wpD, r92_6, r92_6a, r92_6b, r92_6c, r92_6d, sx, Nat.reduceBEq, Nat.reduceAdd, Nat.reduceLeDiff, reduceCtorEq]
    refine ⟨by rw [List.length_map]; omega, voiceC xs[i], hcell.lrow, rfl, ?_⟩
    refine ⟨by rw [List.length_map]; omega, voiceC ys[i], hcell2.lrow, rfl, ?_⟩
    simp only [voiceC, kok, k1ok, ceq, c1eq, Bool.and_true, sx, Nat.reduceBEq, Nat.reduceAdd, Nat.reduceLeDiff, reduceCtorEq]
    have hq : (xs[i].mark == ys[i].mark && (xs[i].who == ys[i].who && (xs[i].yes == ys[i].yes && xs[i].day == ys[i].day))) = decide (xs[i] = ys[i]) := by
      generalize xs[i] = x
      generalize ys[i] = y
      rcases x with ⟨⟩; rcases y with ⟨⟩; rw [Bool.eq_iff_iff]; simp [and_assoc]
    rw [hq]
    refine W_cnd rfl (fun hb => ?_) (fun hb => W_skip ?_)
    · refine W_seq (W_reg ?_)
      simp only [r92_7, sx, Nat.reduceBEq, Nat.reduceAdd, Nat.reduceLeDiff, reduceCtorEq]
      refine W_ret (RetQ.outQ hu (mle_refl _) rfl trivial ⟨?_, rfl, rfl⟩)
      have : decide (xs[i] = ys[i]) = false := by simpa using hb
      rw [hs, this]; rfl
    · refine W_reg ?_
      simp only [r92_5, sx, Nat.reduceBEq, Nat.reduceAdd, Nat.reduceLeDiff, reduceCtorEq]
      rw [wrapS hlt hmax]
      refine ⟨_, by omega, i + 1, by omega, rfl, .mk ⟨rfl, ?_⟩⟩
      have : decide (xs[i] = ys[i]) = true := by simpa using hb
      rw [hs, this]; rfl
  · have hge : ¬ i < xs.length := by simpa using hc
    rw [List.drop_eq_nil_of_le (by omega), List.drop_eq_nil_of_le (by omega)] at hs
    refine W_seq (W_reg ?_)
    simp only [r92_8, sx, Nat.reduceBEq, Nat.reduceAdd, Nat.reduceLeDiff, reduceCtorEq]
    refine W_ret (RetQ.outQ hu (mle_refl _) rfl trivial ⟨by rw [hs]; rfl, rfl, rfl⟩)
end Go.Proofs.YtenmmfkgopffgaaGreatDoor

set_option maxRecDepth 4000
namespace Go.Proofs.YtenmmfkgopffgaaGreatDoor
open Go

theorem same47 {cs cs' : List Value} {x y : Circle} {u : Mem} (hx : circleR (MU u) cs x) (hy : circleR (MU u) cs' y) : QFn Tryz.prog 47 [.agg cs.toArray, .agg cs'.toArray] u (.bool (decide (x = y))) := by
  obtain ⟨vm, vp, vb, vt, vo, vu, vq, vc, rfl, ht, ⟨cssm, ⟨am, cm, rfl, hmaxm, hcapm, hrowm, hlenm⟩, hallm⟩, ⟨ap, cp, rfl, hmaxp, hcapp, hrowp, hlenp⟩, ⟨ab, cb, rfl, hmaxb, hcapb, hrowb, hlenb⟩, htu, hpo, hou, ⟨cssq, ⟨aq, cq, rfl, hmaxq, hcapq, hrowq, hlenq⟩, hallq⟩, ⟨cssc, ⟨ac, cc, rfl, hmaxc, hcapc, hrowc, hlenc⟩, hallc⟩⟩ := hx
  obtain ⟨vm2, vp2, vb2, vt2, vo2, vu2, vq2, vc2, rfl, ht2, ⟨cssm2, ⟨am2, cm2, rfl, hmaxm2, hcapm2, hrowm2, hlenm2⟩, hallm2⟩, ⟨ap2, cp2, rfl, hmaxp2, hcapp2, hrowp2, hlenp2⟩, ⟨ab2, cb2, rfl, hmaxb2, hcapb2, hrowb2, hlenb2⟩, htu2, hpo2, hou2, ⟨cssq2, ⟨aq2, cq2, rfl, hmaxq2, hcapq2, hrowq2, hlenq2⟩, hallq2⟩, ⟨cssc2, ⟨ac2, cc2, rfl, hmaxc2, hcapc2, hrowc2, hlenc2⟩, hallc2⟩⟩ := hy
  have hlm := hallm.len; have hlm2 := hallm2.len
  have hlq := hallq.len; have hlq2 := hallq2.len
  have hlc := hallc.len; have hlc2 := hallc2.len
  simp only [List.length_map] at hmaxp hcapp hmaxp2 hcapp2 hmaxb hcapb hmaxb2 hcapb2
  refine fn47 fun cx hu => ?_
  refine W_seq (W_reg ?_)
  simp only [r47_0, r47_0a, r47_0b, sx, Nat.reduceBEq, Nat.reduceAdd, Nat.reduceLeDiff, reduceCtorEq]
  intro b1 b2
  refine W_seq ?_
  refine W_seq (W_reg ?_)
  simp only [r47_1, text_eq, sx, Nat.reduceBEq, Nat.reduceAdd, Nat.reduceLeDiff, reduceCtorEq]
  have hne : ∀ z : Bool, z = false → (x = y → z = true) → decide (x = y) = false := by
    intro z h1 h2
    simp; intro h; rw [h2 h] at h1; cases h1
  refine W_cnd rfl (fun hb => ?_) (fun hb => W_skip ?_)
  · refine W_seq (W_reg ?_)
    simp only [r47_2, sx, Nat.reduceBEq, Nat.reduceAdd, Nat.reduceLeDiff, reduceCtorEq]
    refine W_ret (RetQ.outQ hu (mle_refl _) rfl trivial ⟨?_, rfl, rfl⟩)
    congr 1
    simp only [Bool.cond_true_left] at hb
    refine (decide_eq_false fun h => ?_).symm
    subst h
    simp at hb
  have e1 : x.id = y.id ∧ x.found = y.found ∧ x.text = y.text ∧ x.version = y.version ∧ x.law = y.law ∧ x.fund = y.fund ∧ x.ended = y.ended := by
    simp only [Bool.cond_true_left] at hb
    simp at hb
    grind
  clear hb
  refine W_seq ?_
  refine W_seq (W_reg ?_)
  simp only [r47_3, sx, Nat.reduceBEq, Nat.reduceAdd, Nat.reduceLeDiff, reduceCtorEq]
  refine W_cnd rfl (fun hb => ?_) (fun hb => W_skip ?_)
  · refine W_seq (W_reg ?_)
    simp only [r47_4, sx, Nat.reduceBEq, Nat.reduceAdd, Nat.reduceLeDiff, reduceCtorEq]
    refine W_ret (RetQ.outQ hu (mle_refl _) rfl trivial ⟨?_, rfl, rfl⟩)
    congr 1
    simp only [Bool.cond_true_left] at hb
    refine (decide_eq_false fun h => ?_).symm
    subst h
    simp at hb
    omega
  have e2 : x.members.length = y.members.length ∧ x.paid.length = y.paid.length ∧ x.bids.length = y.bids.length ∧ x.op.length = y.op.length ∧ x.claims.length = y.claims.length := by
    simp only [Bool.cond_true_left] at hb
    simp at hb
    omega
  clear hb
  obtain ⟨em, ep, eb, eq_, ec⟩ := e2
  refine W_seq (W_reg ?_)
  simp only [r47_5, r47_5a, sx, Nat.reduceBEq, Nat.reduceAdd, Nat.reduceLeDiff, reduceCtorEq]
  refine ⟨_, refInts htu htu2, ?_⟩
  simp only [r47_5b, r47_5c, sx, Nat.reduceBEq, Nat.reduceAdd, Nat.reduceLeDiff, reduceCtorEq]
  refine ⟨_, fun _ => refInts hpo hpo2, ?_⟩
  simp only [r47_5d, r47_5e, sx, Nat.reduceBEq, Nat.reduceAdd, Nat.reduceLeDiff, reduceCtorEq]
  refine ⟨_, fun _ => refInts hou hou2, ?_⟩
  simp only [r47_5f, sx, Nat.reduceBEq, Nat.reduceAdd, Nat.reduceLeDiff, reduceCtorEq]
  generalize hr0 : (bif _ then decide (x.out = y.out) else false : Bool) = r0
  simp only [Bool.cond_false_right] at hr0
  refine W_seq ?_
  refine W_seq (W_reg ?_)
  simp only [r47_6, sx, Nat.reduceBEq, Nat.reduceAdd, Nat.reduceLeDiff, reduceCtorEq]
  refine (W_blk (W_loop (fun m e bx own u' => ∃ i r, i ≤ x.members.length ∧ m = x.members.length - i ∧ St [(2, .pointer (some ⟨b1, 0, none⟩)), (3, .pointer (some ⟨b2, 0, none⟩)), (5, .bool r), (6, ic i)] [⟨3, b2, [ic y.id, ic y.found, .string y.text, ic y.version, ic y.law, .slice am2 cssm2.length cm2, .slice ap2 (y.paid.map paidC).length cp2, .slice ab2 (y.bids.map bidC).length cb2, vt2, vo2, vu2, .slice aq2 cssq2.length cq2, .slice ac2 cssc2.length cc2, ic y.fund, .bool y.ended], 50⟩, ⟨2, b1, [ic x.id, ic x.found, .string x.text, ic x.version, ic x.law, .slice am cssm.length cm, .slice ap (x.paid.map paidC).length cp, .slice ab (x.bids.map bidC).length cb, vt, vo, vu, .slice aq cssq.length cq, .slice ac cssc.length cc, ic x.fund, .bool x.ended], 50⟩] (fun own u' => u = u' ∧ (r && decide (x.members.drop i = y.members.drop i)) = (r0 && decide (x.members = y.members))) e bx own u') (m := x.members.length) ⟨0, r0, by omega, by omega, ?_⟩ ?_))
  · exact .mk ⟨rfl, rfl⟩
  rintro m e bx own u' ⟨i, r1, hi, rfl, ⟨rfl, hs0⟩⟩
  refine W_seq ?_
  refine W_seq (W_reg ?_)
  simp only [r47_7, sx, Nat.reduceBEq, Nat.reduceAdd, Nat.reduceLeDiff, reduceCtorEq]
  refine (W_cnd rfl (fun hc => W_skip ?_) (fun hc => W_exit ?_))
  · have hlt : i < cssm.length := by simpa using hc
    have hlt2 : i < cssm2.length := by omega
    have hlx : i < x.members.length := by omega
    have hly : i < y.members.length := by omega
    obtain ⟨o, off, rfl, hr⟩ := hrowm (by intro q; simp [q] at hlt)
    obtain ⟨o2, off2, rfl, hr2⟩ := hrowm2 (by intro q; simp [q] at hlt2)
    have hcell := SlC_at hr hlenm hlt
    have hcell2 := SlC_at hr2 hlenm2 hlt2
    have hxR := hallm.at_ hlt hlx
    have hyR := hallm2.at_ hlt2 hly
    rw [decEq_drop hlx hly] at hs0
    refine W_seq (W_blk (W_drw (drawOK mixedP) ?_))
    simp only [WSD, A.wpD, r47_9, r47_9a, r47_9b, r47_9c, r47_9d, r47_9e, sx, Nat.reduceBEq, Nat.reduceAdd, Nat.reduceLeDiff, reduceCtorEq]
    refine ⟨fun _ => by omega, _, fun _ => hcell.lrow, hlenm _ (List.getElem_mem hlt), ?_⟩
    refine ⟨fun _ => by omega, _, fun _ => hcell2.lrow, hlenm2 _ (List.getElem_mem hlt2), ?_⟩
    refine ⟨_, fun _ => same91 hxR hyR, ?_⟩
    simp only [sx, Nat.reduceBEq, Nat.reduceAdd, Nat.reduceLeDiff, reduceCtorEq]
    refine W_reg ?_
    simp only [r47_8, sx, Nat.reduceBEq, Nat.reduceAdd, Nat.reduceLeDiff, reduceCtorEq]
    rw [wrapS hlt hmaxm]
    refine ⟨_, by omega, i + 1, (r1 && decide (x.members[i] = y.members[i])), by omega, rfl, ?_⟩
    rw [Bool.cond_false_right]
    exact .mk ⟨rfl, by rw [← hs0, Bool.and_assoc]⟩
  have hge : ¬ i < x.members.length := by simp at hc; omega
  rw [List.drop_eq_nil_of_le (by omega), List.drop_eq_nil_of_le (by omega)] at hs0
  simp only [decide_true, Bool.and_true] at hs0
  clear hc hge hi
  refine W_seq ?_
  refine W_seq (W_reg ?_)
  simp only [r47_10, sx, Nat.reduceBEq, Nat.reduceAdd, Nat.reduceLeDiff, reduceCtorEq]
  refine (W_blk (W_loop (fun m e bx own u' => ∃ i r, i ≤ x.paid.length ∧ m = x.paid.length - i ∧ St [(2, .pointer (some ⟨b1, 0, none⟩)), (3, .pointer (some ⟨b2, 0, none⟩)), (5, .bool r), (7, ic i)] [⟨3, b2, [ic y.id, ic y.found, .string y.text, ic y.version, ic y.law, .slice am2 cssm2.length cm2, .slice ap2 (y.paid.map paidC).length cp2, .slice ab2 (y.bids.map bidC).length cb2, vt2, vo2, vu2, .slice aq2 cssq2.length cq2, .slice ac2 cssc2.length cc2, ic y.fund, .bool y.ended], 50⟩, ⟨2, b1, [ic x.id, ic x.found, .string x.text, ic x.version, ic x.law, .slice am cssm.length cm, .slice ap (x.paid.map paidC).length cp, .slice ab (x.bids.map bidC).length cb, vt, vo, vu, .slice aq cssq.length cq, .slice ac cssc.length cc, ic x.fund, .bool x.ended], 50⟩] (fun own u' => u = u' ∧ (r && decide (x.paid.drop i = y.paid.drop i)) = (r1 && decide (x.paid = y.paid))) e bx own u') (m := x.paid.length) ⟨0, r1, by omega, by omega, ?_⟩ ?_))
  · exact .mk ⟨rfl, rfl⟩
  rintro m e bx own u' ⟨i, r2, hi, rfl, ⟨rfl, hs1⟩⟩
  refine W_seq ?_
  refine W_seq (W_reg ?_)
  simp only [r47_11, sx, Nat.reduceBEq, Nat.reduceAdd, Nat.reduceLeDiff, reduceCtorEq]
  refine (W_cnd rfl (fun hc => W_skip ?_) (fun hc => W_exit ?_))
  · have hlt : i < x.paid.length := by simpa using hc
    have hlt2 : i < y.paid.length := by omega
    obtain ⟨o, off, rfl, hr⟩ := hrowp (map_ne hlt)
    obtain ⟨o2, off2, rfl, hr2⟩ := hrowp2 (map_ne hlt2)
    have hcell := SlC_at hr hlenp (by simpa using hlt)
    have hcell2 := SlC_at hr2 hlenp2 (by simpa using hlt2)
    rw [List.getElem_map] at hcell hcell2
    rw [decEq_drop hlt hlt2] at hs1
    refine W_seq (W_blk (W_drw (drawOK mixedP) ?_))
    simp only [WSD, A.wpD, r47_13, r47_13a, r47_13b, r47_13c, r47_13d, sx, Nat.reduceBEq, Nat.reduceAdd, Nat.reduceLeDiff, reduceCtorEq]
    refine ⟨fun _ => by rw [List.length_map]; omega, paidC x.paid[i], fun _ => hcell.lrow, rfl, ?_⟩
    refine ⟨fun _ => by rw [List.length_map]; omega, paidC y.paid[i], fun _ => hcell2.lrow, rfl, ?_⟩
    simp only [paidC, kok, k1ok, ceq, c1eq, Bool.and_true, sx, Nat.reduceBEq, Nat.reduceAdd, Nat.reduceLeDiff, reduceCtorEq]
    have hq : (x.paid[i].mark == y.paid[i].mark && (x.paid[i].who == y.paid[i].who && (x.paid[i].period == y.paid[i].period && (x.paid[i].day == y.paid[i].day && x.paid[i].n == y.paid[i].n)))) = decide (x.paid[i] = y.paid[i]) := by
      generalize x.paid[i] = x
      generalize y.paid[i] = y
      rcases x with ⟨⟩; rcases y with ⟨⟩; rw [Bool.eq_iff_iff]; simp [and_assoc]
    rw [hq]
    refine W_reg ?_
    simp only [r47_12, sx, Nat.reduceBEq, Nat.reduceAdd, Nat.reduceLeDiff, reduceCtorEq]
    rw [wrapS hlt hmaxp]
    refine ⟨_, by omega, i + 1, (r2 && decide (x.paid[i] = y.paid[i])), by omega, rfl, ?_⟩
    rw [Bool.cond_false_right]
    exact .mk ⟨rfl, by rw [← hs1, Bool.and_assoc]⟩
  have hge : ¬ i < x.paid.length := by simp at hc; omega
  rw [List.drop_eq_nil_of_le (by omega), List.drop_eq_nil_of_le (by omega)] at hs1
  simp only [decide_true, Bool.and_true] at hs1
  clear hc hge hi
  refine W_seq ?_
  refine W_seq (W_reg ?_)
  simp only [r47_14, sx, Nat.reduceBEq, Nat.reduceAdd, Nat.reduceLeDiff, reduceCtorEq]
  refine (W_blk (W_loop (fun m e bx own u' => ∃ i r, i ≤ x.bids.length ∧ m = x.bids.length - i ∧ St [(2, .pointer (some ⟨b1, 0, none⟩)), (3, .pointer (some ⟨b2, 0, none⟩)), (5, .bool r), (8, ic i)] [⟨3, b2, [ic y.id, ic y.found, .string y.text, ic y.version, ic y.law, .slice am2 cssm2.length cm2, .slice ap2 (y.paid.map paidC).length cp2, .slice ab2 (y.bids.map bidC).length cb2, vt2, vo2, vu2, .slice aq2 cssq2.length cq2, .slice ac2 cssc2.length cc2, ic y.fund, .bool y.ended], 50⟩, ⟨2, b1, [ic x.id, ic x.found, .string x.text, ic x.version, ic x.law, .slice am cssm.length cm, .slice ap (x.paid.map paidC).length cp, .slice ab (x.bids.map bidC).length cb, vt, vo, vu, .slice aq cssq.length cq, .slice ac cssc.length cc, ic x.fund, .bool x.ended], 50⟩] (fun own u' => u = u' ∧ (r && decide (x.bids.drop i = y.bids.drop i)) = (r2 && decide (x.bids = y.bids))) e bx own u') (m := x.bids.length) ⟨0, r2, by omega, by omega, ?_⟩ ?_))
  · exact .mk ⟨rfl, rfl⟩
  rintro m e bx own u' ⟨i, r3, hi, rfl, ⟨rfl, hs2⟩⟩
  refine W_seq ?_
  refine W_seq (W_reg ?_)
  simp only [r47_15, sx, Nat.reduceBEq, Nat.reduceAdd, Nat.reduceLeDiff, reduceCtorEq]
  refine (W_cnd rfl (fun hc => W_skip ?_) (fun hc => W_exit ?_))
  · have hlt : i < x.bids.length := by simpa using hc
    have hlt2 : i < y.bids.length := by omega
    obtain ⟨o, off, rfl, hr⟩ := hrowb (map_ne hlt)
    obtain ⟨o2, off2, rfl, hr2⟩ := hrowb2 (map_ne hlt2)
    have hcell := SlC_at hr hlenb (by simpa using hlt)
    have hcell2 := SlC_at hr2 hlenb2 (by simpa using hlt2)
    rw [List.getElem_map] at hcell hcell2
    rw [decEq_drop hlt hlt2] at hs2
    refine W_seq (W_blk (W_drw (drawOK mixedP) ?_))
    simp only [WSD, A.wpD, r47_17, r47_17a, r47_17b, r47_17c, r47_17d, sx, Nat.reduceBEq, Nat.reduceAdd, Nat.reduceLeDiff, reduceCtorEq]
    refine ⟨fun _ => by rw [List.length_map]; omega, bidC x.bids[i], fun _ => hcell.lrow, rfl, ?_⟩
    refine ⟨fun _ => by rw [List.length_map]; omega, bidC y.bids[i], fun _ => hcell2.lrow, rfl, ?_⟩
    simp only [bidC, kok, k1ok, ceq, c1eq, Bool.and_true, sx, Nat.reduceBEq, Nat.reduceAdd, Nat.reduceLeDiff, reduceCtorEq]
    have hq : (x.bids[i].mark == y.bids[i].mark && (x.bids[i].who == y.bids[i].who && (x.bids[i].n == y.bids[i].n && x.bids[i].op == y.bids[i].op))) = decide (x.bids[i] = y.bids[i]) := by
      generalize x.bids[i] = x
      generalize y.bids[i] = y
      rcases x with ⟨⟩; rcases y with ⟨⟩; rw [Bool.eq_iff_iff]; simp [and_assoc]
    rw [hq]
    refine W_reg ?_
    simp only [r47_16, sx, Nat.reduceBEq, Nat.reduceAdd, Nat.reduceLeDiff, reduceCtorEq]
    rw [wrapS hlt hmaxb]
    refine ⟨_, by omega, i + 1, (r3 && decide (x.bids[i] = y.bids[i])), by omega, rfl, ?_⟩
    rw [Bool.cond_false_right]
    exact .mk ⟨rfl, by rw [← hs2, Bool.and_assoc]⟩
  have hge : ¬ i < x.bids.length := by simp at hc; omega
  rw [List.drop_eq_nil_of_le (by omega), List.drop_eq_nil_of_le (by omega)] at hs2
  simp only [decide_true, Bool.and_true] at hs2
  clear hc hge hi
  refine W_seq ?_
  refine W_seq (W_reg ?_)
  simp only [r47_18, sx, Nat.reduceBEq, Nat.reduceAdd, Nat.reduceLeDiff, reduceCtorEq]
  refine (W_blk (W_loop (fun m e bx own u' => ∃ i r, i ≤ x.op.length ∧ m = x.op.length - i ∧ St [(2, .pointer (some ⟨b1, 0, none⟩)), (3, .pointer (some ⟨b2, 0, none⟩)), (5, .bool r), (9, ic i)] [⟨3, b2, [ic y.id, ic y.found, .string y.text, ic y.version, ic y.law, .slice am2 cssm2.length cm2, .slice ap2 (y.paid.map paidC).length cp2, .slice ab2 (y.bids.map bidC).length cb2, vt2, vo2, vu2, .slice aq2 cssq2.length cq2, .slice ac2 cssc2.length cc2, ic y.fund, .bool y.ended], 50⟩, ⟨2, b1, [ic x.id, ic x.found, .string x.text, ic x.version, ic x.law, .slice am cssm.length cm, .slice ap (x.paid.map paidC).length cp, .slice ab (x.bids.map bidC).length cb, vt, vo, vu, .slice aq cssq.length cq, .slice ac cssc.length cc, ic x.fund, .bool x.ended], 50⟩] (fun own u' => u = u' ∧ (r && decide (x.op.drop i = y.op.drop i)) = (r3 && decide (x.op = y.op))) e bx own u') (m := x.op.length) ⟨0, r3, by omega, by omega, ?_⟩ ?_))
  · exact .mk ⟨rfl, rfl⟩
  rintro m e bx own u' ⟨i, r4, hi, rfl, ⟨rfl, hs3⟩⟩
  refine W_seq ?_
  refine W_seq (W_reg ?_)
  simp only [r47_19, sx, Nat.reduceBEq, Nat.reduceAdd, Nat.reduceLeDiff, reduceCtorEq]
  refine (W_cnd rfl (fun hc => W_skip ?_) (fun hc => W_exit ?_))
  · have hlt : i < cssq.length := by simpa using hc
    have hlt2 : i < cssq2.length := by omega
    have hlx : i < x.op.length := by omega
    have hly : i < y.op.length := by omega
    obtain ⟨o, off, rfl, hr⟩ := hrowq (by intro q; simp [q] at hlt)
    obtain ⟨o2, off2, rfl, hr2⟩ := hrowq2 (by intro q; simp [q] at hlt2)
    have hcell := SlC_at hr hlenq hlt
    have hcell2 := SlC_at hr2 hlenq2 hlt2
    have hxR := hallq.at_ hlt hlx
    have hyR := hallq2.at_ hlt2 hly
    rw [decEq_drop hlx hly] at hs3
    refine W_seq (W_blk (W_drw (drawOK mixedP) ?_))
    simp only [WSD, A.wpD, r47_21, r47_21a, r47_21b, r47_21c, r47_21d, r47_21e, sx, Nat.reduceBEq, Nat.reduceAdd, Nat.reduceLeDiff, reduceCtorEq]
    refine ⟨fun _ => by omega, _, fun _ => hcell.lrow, hlenq _ (List.getElem_mem hlt), ?_⟩
    refine ⟨fun _ => by omega, _, fun _ => hcell2.lrow, hlenq2 _ (List.getElem_mem hlt2), ?_⟩
    refine ⟨_, fun _ => same92 hxR hyR, ?_⟩
    simp only [sx, Nat.reduceBEq, Nat.reduceAdd, Nat.reduceLeDiff, reduceCtorEq]
    refine W_reg ?_
    simp only [r47_20, sx, Nat.reduceBEq, Nat.reduceAdd, Nat.reduceLeDiff, reduceCtorEq]
    rw [wrapS hlt hmaxq]
    refine ⟨_, by omega, i + 1, (r4 && decide (x.op[i] = y.op[i])), by omega, rfl, ?_⟩
    rw [Bool.cond_false_right]
    exact .mk ⟨rfl, by rw [← hs3, Bool.and_assoc]⟩
  have hge : ¬ i < x.op.length := by simp at hc; omega
  rw [List.drop_eq_nil_of_le (by omega), List.drop_eq_nil_of_le (by omega)] at hs3
  simp only [decide_true, Bool.and_true] at hs3
  clear hc hge hi
  refine W_seq ?_
  refine W_seq (W_reg ?_)
  simp only [r47_22, sx, Nat.reduceBEq, Nat.reduceAdd, Nat.reduceLeDiff, reduceCtorEq]
  refine (W_blk (W_loop (fun m e bx own u' => ∃ i r, i ≤ x.claims.length ∧ m = x.claims.length - i ∧ St [(2, .pointer (some ⟨b1, 0, none⟩)), (3, .pointer (some ⟨b2, 0, none⟩)), (5, .bool r), (10, ic i)] [⟨3, b2, [ic y.id, ic y.found, .string y.text, ic y.version, ic y.law, .slice am2 cssm2.length cm2, .slice ap2 (y.paid.map paidC).length cp2, .slice ab2 (y.bids.map bidC).length cb2, vt2, vo2, vu2, .slice aq2 cssq2.length cq2, .slice ac2 cssc2.length cc2, ic y.fund, .bool y.ended], 50⟩, ⟨2, b1, [ic x.id, ic x.found, .string x.text, ic x.version, ic x.law, .slice am cssm.length cm, .slice ap (x.paid.map paidC).length cp, .slice ab (x.bids.map bidC).length cb, vt, vo, vu, .slice aq cssq.length cq, .slice ac cssc.length cc, ic x.fund, .bool x.ended], 50⟩] (fun own u' => u = u' ∧ (r && decide (x.claims.drop i = y.claims.drop i)) = (r4 && decide (x.claims = y.claims))) e bx own u') (m := x.claims.length) ⟨0, r4, by omega, by omega, ?_⟩ ?_))
  · exact .mk ⟨rfl, rfl⟩
  rintro m e bx own u' ⟨i, r5, hi, rfl, ⟨rfl, hs4⟩⟩
  refine W_seq ?_
  refine W_seq (W_reg ?_)
  simp only [r47_23, sx, Nat.reduceBEq, Nat.reduceAdd, Nat.reduceLeDiff, reduceCtorEq]
  refine (W_cnd rfl (fun hc => W_skip ?_) (fun hc => W_exit ?_))
  · have hlt : i < cssc.length := by simpa using hc
    have hlt2 : i < cssc2.length := by omega
    have hlx : i < x.claims.length := by omega
    have hly : i < y.claims.length := by omega
    obtain ⟨o, off, rfl, hr⟩ := hrowc (by intro q; simp [q] at hlt)
    obtain ⟨o2, off2, rfl, hr2⟩ := hrowc2 (by intro q; simp [q] at hlt2)
    have hcell := SlC_at hr hlenc hlt
    have hcell2 := SlC_at hr2 hlenc2 hlt2
    have hxR := hallc.at_ hlt hlx
    have hyR := hallc2.at_ hlt2 hly
    rw [decEq_drop hlx hly] at hs4
    refine W_seq (W_blk (W_drw (drawOK mixedP) ?_))
    simp only [WSD, A.wpD, r47_25, r47_25a, r47_25b, r47_25c, r47_25d, r47_25e, sx, Nat.reduceBEq, Nat.reduceAdd, Nat.reduceLeDiff, reduceCtorEq]
    refine ⟨fun _ => by omega, _, fun _ => hcell.lrow, hlenc _ (List.getElem_mem hlt), ?_⟩
    refine ⟨fun _ => by omega, _, fun _ => hcell2.lrow, hlenc2 _ (List.getElem_mem hlt2), ?_⟩
    refine ⟨_, fun _ => same93 hxR hyR, ?_⟩
    simp only [sx, Nat.reduceBEq, Nat.reduceAdd, Nat.reduceLeDiff, reduceCtorEq]
    refine W_reg ?_
    simp only [r47_24, sx, Nat.reduceBEq, Nat.reduceAdd, Nat.reduceLeDiff, reduceCtorEq]
    rw [wrapS hlt hmaxc]
    refine ⟨_, by omega, i + 1, (r5 && decide (x.claims[i] = y.claims[i])), by omega, rfl, ?_⟩
    rw [Bool.cond_false_right]
    exact .mk ⟨rfl, by rw [← hs4, Bool.and_assoc]⟩
  have hge : ¬ i < x.claims.length := by simp at hc; omega
  rw [List.drop_eq_nil_of_le (by omega), List.drop_eq_nil_of_le (by omega)] at hs4
  simp only [decide_true, Bool.and_true] at hs4
  clear hc hge hi
  refine W_seq (W_reg ?_)
  simp only [r47_26, sx, Nat.reduceBEq, Nat.reduceAdd, Nat.reduceLeDiff, reduceCtorEq]
  refine W_ret (RetQ.outQ hu (mle_refl _) rfl trivial ⟨?_, rfl, rfl⟩)
  congr 1
  rw [hs4, hs3, hs2, hs1, hs0, ← hr0]
  rcases x with ⟨⟩
  rcases y with ⟨⟩
  rw [Bool.eq_iff_iff]; simp at e1; simp [and_assoc]; grind
end Go.Proofs.YtenmmfkgopffgaaGreatDoor
