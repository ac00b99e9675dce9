/- Part 24 of the proofs that the program's StateBack and StateBalance return true (texts Xc Xe Xf joined): what its functions compute. -/
import Derived.Test.YtenmmfkgopffgaaGreatDoorMau
import Derived.Test.YtenmmfkgopffgaaGreatDoorMaw
set_option linter.unusedVariables false
set_option linter.unusedSimpArgs false
set_option maxRecDepth 4000
namespace Go.Proofs.YtenmmfkgopffgaaGreatDoor
open Go
theorem seg_members {cx : Ctx} {Q : PQ} {u : Mem} {b b3 : Nat} {c : Circle} {vm vp vb vt vo vu vq vc : Value} {L R T : Str} (hu : cx.u = u) (g : GM u) (hT : T.length ≤ big) (hv : Sl 5 memberR (MU u) vm c.members) (ho : ∀ x ∈ c.members, okMember x) (hL : L ++ (tAll tMember c.members ++ R) = T)
    (hK : ∀ L' x, L' ++ R = T → Q .normal ((0, .pointer (some ⟨b, 0, none⟩)) :: (3, .pointer (some ⟨b3, 0, none⟩)) :: x) [⟨3, b3, [ic c.id, ic c.found, .string c.text, ic c.version, ic c.law, vm, vp, vb, vt, vo, vu, vq, vc, ic c.fund, .bool c.ended], 50⟩] [Bld 78 b L'] u) :
    W Tryz.prog (chkD Tryz.prog) Tryz.f25.ntmps cx k25_99 Q [(0, .pointer (some ⟨b, 0, none⟩)), (3, .pointer (some ⟨b3, 0, none⟩))] [⟨3, b3, [ic c.id, ic c.found, .string c.text, ic c.version, ic c.law, vm, vp, vb, vt, vo, vu, vq, vc, ic c.fund, .bool c.ended], 50⟩] [Bld 78 b L] u := by
  obtain ⟨css, ⟨a, cc, rfl, hmax, hcap, hrow, hlen⟩, hall⟩ := hv
  have hl := hall.len
  refine W_seq (W_reg ?_)
  simp only [r25_4, sx, Nat.reduceBEq, Nat.reduceAdd, Nat.reduceLeDiff, reduceCtorEq]
  refine W_blk (W_loop (fun m e bx own u' => ∃ i, i ≤ css.length ∧ m = css.length - i ∧ St [(0, .pointer (some ⟨b, 0, none⟩)), (3, .pointer (some ⟨b3, 0, none⟩)), (43, .slice a css.length cc), (44, ic css.length), (45, ic i)] [⟨3, b3, [ic c.id, ic c.found, .string c.text, ic c.version, ic c.law, .slice a css.length cc, vp, vb, vt, vo, vu, vq, vc, ic c.fund, .bool c.ended], 50⟩] (fun own u' => u = u' ∧ ∃ L', own = [Bld 78 b L'] ∧ L' ++ (tAll tMember (c.members.drop i) ++ R) = T) e bx own u') (m := css.length) ⟨0, by omega, by omega, ?_⟩ ?_)
  · exact .mk ⟨rfl, L, rfl, hL⟩
  clear hL
  rintro m e bx own u' ⟨i, hi, rfl, ⟨rfl, L, rfl, hL⟩⟩
  refine W_seq (W_reg ?_)
  simp only [r25_5, sx, Nat.reduceBEq, Nat.reduceAdd, Nat.reduceLeDiff, reduceCtorEq]
  refine W_seq (W_cnd rfl (fun hc => W_skip ?_) (fun hc => W_exit ?_))
  rotate_left
  · have hge : ¬ i < css.length := by simpa using hc
    rw [List.drop_eq_nil_of_le (by omega), tAll, List.nil_append] at hL
    simp only [sx, Nat.reduceBEq, Nat.reduceAdd, Nat.reduceLeDiff, reduceCtorEq]
    exact hK _ _ hL
  have hlt : i < css.length := by simpa using hc
  have hlx : i < c.members.length := by omega
  obtain ⟨o, off, rfl, hr⟩ := hrow (by intro q; simp [q] at hlt)
  have hcell := SlC_at hr hlen hlt
  have hxi := hall.at_ hlt hlx
  have hox := ho _ (List.getElem_mem hlx)
  rw [List.drop_eq_getElem_cons hlx, tAll, List.append_assoc] at hL
  generalize c.members[i] = x at *
  have hnn := hox.1
  simp only [okPaid, okVoice, okVoid, nnl_cons] at hnn
  obtain ⟨k1, k2, k3, k4, _⟩ := hnn
  have j1 := nn_i64 k1
  have j2 := nn_i64 k2
  have j3 := nn_i64 k3
  have j4 := nn_i64 k4
  obtain ⟨vj, heq, hvj⟩ := hxi
  rw [heq] at hcell
  simp only [tMember, List.append_assoc] at hL
  refine W_seq (W_blk ?_)
  refine W_seq (W_reg ?_)
  simp only [r25_6, r25_6a, r25_6b, r25_6c, sx, Nat.reduceBEq, Nat.reduceAdd, Nat.reduceLeDiff, reduceCtorEq]
  refine ⟨by omega, _, hcell.lrow, rfl, ?_⟩
  simp only [sx, Nat.reduceBEq, Nat.reduceAdd, Nat.reduceLeDiff, reduceCtorEq]
  intro b5
  refine ⟨hvj.one, ?_⟩
  refine W_seq (W_reg ?_)
  simp only [r25_7, r25_7a, r25_7b, sx, Nat.reduceBEq, Nat.reduceAdd, Nat.reduceLeDiff, reduceCtorEq]
  refine .inl ⟨by simp [lenAll, vcells], fun blk u2 hle2 hu2 => ?_⟩
  refine CallW.own (rest := []) (wnum (g.mono hle2) (ints_new (xs := [x.key, x.joined]) (by simp [maxN]) hu2) (by simp [j1, j2]) hT hL) (List.Perm.refl _) ?_
  clear hL
  rintro v own' u3 ⟨rfl, L, rfl, hL⟩ _
  refine W_less hu hle2 ?_
  refine W_seq (W_drw (drawOK mixedP) ?_)
  simp only [WSD, A.wpD, r25_8, r25_8a, r25_8b, sx, Nat.reduceBEq, Nat.reduceAdd, Nat.reduceLeDiff, reduceCtorEq]
  refine ⟨_, nums_q g hvj hox.2.2, ?_⟩
  refine CallWD.own (rest := []) (wstr hT hL) (List.Perm.refl _) ?_
  clear hL
  rintro v own' u3 ⟨rfl, L, rfl, hL⟩ _
  refine W_reg ?_
  simp only [r25_9, r25_9a, r25_9b, sx, Nat.reduceBEq, Nat.reduceAdd, Nat.reduceLeDiff, reduceCtorEq]
  refine .inl ⟨by simp [lenAll, vcells], fun blk u2 hle2 hu2 => ?_⟩
  refine CallW.own (rest := []) (wnum (g.mono hle2) (ints_new (xs := [x.had, x.debt]) (by simp [maxN]) hu2) (by simp [j3, j4]) hT hL) (List.Perm.refl _) ?_
  clear hL
  rintro v own' u3 ⟨rfl, L, rfl, hL⟩ _
  refine W_less hu hle2 ?_
  refine W_reg ?_
  simp only [r25_10, sx, Nat.reduceBEq, Nat.reduceAdd, Nat.reduceLeDiff, reduceCtorEq]
  rw [wrapS hlt hmax]
  exact ⟨_, by omega, i + 1, by omega, rfl, .mk ⟨rfl, L, rfl, hL⟩⟩
theorem seg_paid {cx : Ctx} {Q : PQ} {u : Mem} {b b3 : Nat} {c : Circle} {vm vp vb vt vo vu vq vc : Value} {L R T : Str} (hu : cx.u = u) (g : GM u) (hT : T.length ≤ big) (hv : SlF 5 paidC (MU u) vp c.paid) (ho : ∀ x ∈ c.paid, okPaid x) (hL : L ++ (tAll tPaid c.paid ++ R) = T)
    (hK : ∀ L' x, L' ++ R = T → Q .normal ((0, .pointer (some ⟨b, 0, none⟩)) :: (3, .pointer (some ⟨b3, 0, none⟩)) :: x) [⟨3, b3, [ic c.id, ic c.found, .string c.text, ic c.version, ic c.law, vm, vp, vb, vt, vo, vu, vq, vc, ic c.fund, .bool c.ended], 50⟩] [Bld 78 b L'] u) :
    W Tryz.prog (chkD Tryz.prog) Tryz.f25.ntmps cx k25_96 Q [(0, .pointer (some ⟨b, 0, none⟩)), (3, .pointer (some ⟨b3, 0, none⟩))] [⟨3, b3, [ic c.id, ic c.found, .string c.text, ic c.version, ic c.law, vm, vp, vb, vt, vo, vu, vq, vc, ic c.fund, .bool c.ended], 50⟩] [Bld 78 b L] u := by
  obtain ⟨a, cc, rfl, hmax, hcap, hrow, hlen⟩ := hv
  simp only [List.length_map] at hmax hcap
  refine W_seq (W_reg ?_)
  simp only [r25_12, sx, Nat.reduceBEq, Nat.reduceAdd, Nat.reduceLeDiff, reduceCtorEq]
  refine W_blk (W_loop (fun m e bx own u' => ∃ i, i ≤ c.paid.length ∧ m = c.paid.length - i ∧ St [(0, .pointer (some ⟨b, 0, none⟩)), (3, .pointer (some ⟨b3, 0, none⟩)), (78, .slice a c.paid.length cc), (79, ic c.paid.length), (80, ic i)] [⟨3, b3, [ic c.id, ic c.found, .string c.text, ic c.version, ic c.law, vm, .slice a c.paid.length cc, vb, vt, vo, vu, vq, vc, ic c.fund, .bool c.ended], 50⟩] (fun own u' => u = u' ∧ ∃ L', own = [Bld 78 b L'] ∧ L' ++ (tAll tPaid (c.paid.drop i) ++ R) = T) e bx own u') (m := c.paid.length) ⟨0, by omega, by omega, ?_⟩ ?_)
  · rw [List.length_map]; exact .mk ⟨rfl, L, rfl, hL⟩
  clear hL
  rintro m e bx own u' ⟨i, hi, rfl, ⟨rfl, L, rfl, hL⟩⟩
  refine W_seq (W_reg ?_)
  simp only [r25_13, sx, Nat.reduceBEq, Nat.reduceAdd, Nat.reduceLeDiff, reduceCtorEq]
  refine W_seq (W_cnd rfl (fun hc => W_skip ?_) (fun hc => W_exit ?_))
  rotate_left
  · have hge : ¬ i < c.paid.length := by simpa using hc
    rw [List.drop_eq_nil_of_le (by omega), tAll, List.nil_append] at hL
    simp only [sx, Nat.reduceBEq, Nat.reduceAdd, Nat.reduceLeDiff, reduceCtorEq]
    rw [List.length_map] at hK
    exact hK _ _ hL
  have hlt : i < c.paid.length := by simpa using hc
  have hlx : i < c.paid.length := hlt
  obtain ⟨o, off, rfl, hr⟩ := hrow (map_ne hlt)
  have hcell := SlC_at hr hlen (by simpa using hlt)
  rw [List.getElem_map] at hcell
  have hox := ho _ (List.getElem_mem hlx)
  rw [List.drop_eq_getElem_cons hlx, tAll, List.append_assoc] at hL
  generalize c.paid[i] = x at *
  have hnn := hox
  simp only [okPaid, okVoice, okVoid, nnl_cons] at hnn
  obtain ⟨k1, k2, k3, k4, k5, _⟩ := hnn
  have j1 := nn_i64 k1
  have j2 := nn_i64 k2
  have j3 := nn_i64 k3
  have j4 := nn_i64 k4
  have j5 := nn_i64 k5
  simp only [tPaid] at hL
  refine W_seq (W_blk ?_)
  refine W_seq (W_reg ?_)
  simp only [r25_14, r25_14a, r25_14b, r25_14c, sx, Nat.reduceBEq, Nat.reduceAdd, Nat.reduceLeDiff, reduceCtorEq]
  refine ⟨by omega, _, hcell.lrow, rfl, ?_⟩
  simp only [paidC, sx, Nat.reduceBEq, Nat.reduceAdd, Nat.reduceLeDiff, reduceCtorEq]
  intro b5
  refine W_reg ?_
  simp only [r25_15, r25_15a, r25_15b, sx, Nat.reduceBEq, Nat.reduceAdd, Nat.reduceLeDiff, reduceCtorEq]
  refine .inl ⟨by simp [lenAll, vcells], fun blk u2 hle2 hu2 => ?_⟩
  refine CallW.own (rest := []) (wnum (g.mono hle2) (ints_new (xs := [x.mark, x.who, x.period, x.day, x.n]) (by simp [maxN]) hu2) (by simp [j1, j2, j3, j4, j5]) hT hL) (List.Perm.refl _) ?_
  clear hL
  rintro v own' u3 ⟨rfl, L, rfl, hL⟩ _
  refine W_less hu hle2 ?_
  refine W_reg ?_
  simp only [r25_16, sx, Nat.reduceBEq, Nat.reduceAdd, Nat.reduceLeDiff, reduceCtorEq]
  rw [wrapS hlt hmax]
  exact ⟨_, by omega, i + 1, by omega, rfl, .mk ⟨rfl, L, rfl, hL⟩⟩
theorem seg_bids {cx : Ctx} {Q : PQ} {u : Mem} {b b3 : Nat} {c : Circle} {vm vp vb vt vo vu vq vc : Value} {L R T : Str} (hu : cx.u = u) (g : GM u) (hT : T.length ≤ big) (hv : SlF 4 bidC (MU u) vb c.bids) (ho : ∀ x ∈ c.bids, okBid x) (hL : L ++ (tAll tBid c.bids ++ R) = T)
    (hK : ∀ L' x, L' ++ R = T → Q .normal ((0, .pointer (some ⟨b, 0, none⟩)) :: (3, .pointer (some ⟨b3, 0, none⟩)) :: x) [⟨3, b3, [ic c.id, ic c.found, .string c.text, ic c.version, ic c.law, vm, vp, vb, vt, vo, vu, vq, vc, ic c.fund, .bool c.ended], 50⟩] [Bld 78 b L'] u) :
    W Tryz.prog (chkD Tryz.prog) Tryz.f25.ntmps cx k25_93 Q [(0, .pointer (some ⟨b, 0, none⟩)), (3, .pointer (some ⟨b3, 0, none⟩))] [⟨3, b3, [ic c.id, ic c.found, .string c.text, ic c.version, ic c.law, vm, vp, vb, vt, vo, vu, vq, vc, ic c.fund, .bool c.ended], 50⟩] [Bld 78 b L] u := by
  obtain ⟨a, cc, rfl, hmax, hcap, hrow, hlen⟩ := hv
  simp only [List.length_map] at hmax hcap
  refine W_seq (W_reg ?_)
  simp only [r25_18, sx, Nat.reduceBEq, Nat.reduceAdd, Nat.reduceLeDiff, reduceCtorEq]
  refine W_blk (W_loop (fun m e bx own u' => ∃ i, i ≤ c.bids.length ∧ m = c.bids.length - i ∧ St [(0, .pointer (some ⟨b, 0, none⟩)), (3, .pointer (some ⟨b3, 0, none⟩)), (105, .slice a c.bids.length cc), (106, ic c.bids.length), (107, ic i)] [⟨3, b3, [ic c.id, ic c.found, .string c.text, ic c.version, ic c.law, vm, vp, .slice a c.bids.length cc, vt, vo, vu, vq, vc, ic c.fund, .bool c.ended], 50⟩] (fun own u' => u = u' ∧ ∃ L', own = [Bld 78 b L'] ∧ L' ++ (tAll tBid (c.bids.drop i) ++ R) = T) e bx own u') (m := c.bids.length) ⟨0, by omega, by omega, ?_⟩ ?_)
  · rw [List.length_map]; exact .mk ⟨rfl, L, rfl, hL⟩
  clear hL
  rintro m e bx own u' ⟨i, hi, rfl, ⟨rfl, L, rfl, hL⟩⟩
  refine W_seq (W_reg ?_)
  simp only [r25_19, sx, Nat.reduceBEq, Nat.reduceAdd, Nat.reduceLeDiff, reduceCtorEq]
  refine W_seq (W_cnd rfl (fun hc => W_skip ?_) (fun hc => W_exit ?_))
  rotate_left
  · have hge : ¬ i < c.bids.length := by simpa using hc
    rw [List.drop_eq_nil_of_le (by omega), tAll, List.nil_append] at hL
    simp only [sx, Nat.reduceBEq, Nat.reduceAdd, Nat.reduceLeDiff, reduceCtorEq]
    rw [List.length_map] at hK
    exact hK _ _ hL
  have hlt : i < c.bids.length := by simpa using hc
  have hlx : i < c.bids.length := hlt
  obtain ⟨o, off, rfl, hr⟩ := hrow (map_ne hlt)
  have hcell := SlC_at hr hlen (by simpa using hlt)
  rw [List.getElem_map] at hcell
  have hox := ho _ (List.getElem_mem hlx)
  rw [List.drop_eq_getElem_cons hlx, tAll, List.append_assoc] at hL
  generalize c.bids[i] = x at *
  have hnn := hox.1
  simp only [okPaid, okVoice, okVoid, nnl_cons] at hnn
  obtain ⟨k1, k2, _⟩ := hnn
  have j1 := nn_i64 k1
  have j2 := nn_i64 k2
  simp only [tBid, List.append_assoc] at hL
  refine W_seq (W_blk ?_)
  refine W_seq (W_reg ?_)
  simp only [r25_20, r25_20a, r25_20b, r25_20c, sx, Nat.reduceBEq, Nat.reduceAdd, Nat.reduceLeDiff, reduceCtorEq]
  refine ⟨by omega, _, hcell.lrow, rfl, ?_⟩
  simp only [bidC, sx, Nat.reduceBEq, Nat.reduceAdd, Nat.reduceLeDiff, reduceCtorEq]
  intro b5
  refine W_seq (W_reg ?_)
  simp only [r25_21, r25_21a, r25_21b, sx, Nat.reduceBEq, Nat.reduceAdd, Nat.reduceLeDiff, reduceCtorEq]
  refine .inl ⟨by simp [lenAll, vcells], fun blk u2 hle2 hu2 => ?_⟩
  refine CallW.own (rest := []) (wnum (g.mono hle2) (ints_new (xs := [x.mark, x.who]) (by simp [maxN]) hu2) (by simp [j1, j2]) hT hL) (List.Perm.refl _) ?_
  clear hL
  rintro v own' u3 ⟨rfl, L, rfl, hL⟩ _
  refine W_less hu hle2 ?_
  refine W_seq (W_drw (drawOK mixedP) ?_)
  simp only [WSD, A.wpD, r25_22, r25_22a, r25_22b, sx, Nat.reduceBEq, Nat.reduceAdd, Nat.reduceLeDiff, reduceCtorEq]
  refine ⟨_, int_q g hox.2, ?_⟩
  refine CallWD.own (rest := []) (wstr hT hL) (List.Perm.refl _) ?_
  clear hL
  rintro v own' u3 ⟨rfl, L, rfl, hL⟩ _
  refine W_reg ?_
  simp only [r25_23, r25_23a, sx, Nat.reduceBEq, Nat.reduceAdd, Nat.reduceLeDiff, reduceCtorEq]
  refine CallW.own (rest := []) (wflag g hT hL) (List.Perm.refl _) ?_
  clear hL
  rintro v own' u3 ⟨rfl, L, rfl, hL⟩ _
  refine W_reg ?_
  simp only [r25_24, sx, Nat.reduceBEq, Nat.reduceAdd, Nat.reduceLeDiff, reduceCtorEq]
  rw [wrapS hlt hmax]
  exact ⟨_, by omega, i + 1, by omega, rfl, .mk ⟨rfl, L, rfl, hL⟩⟩
theorem seg_turns {cx : Ctx} {Q : PQ} {u : Mem} {b b3 : Nat} {c : Circle} {vm vp vb vt vo vu vq vc : Value} {L R T : Str} (hu : cx.u = u) (g : GM u) (hT : T.length ≤ big) (hv : Ints (MU u) vt c.turns) (ho : ∀ x ∈ c.turns, i64 x) (hL : L ++ (tAll tI c.turns ++ R) = T)
    (hK : ∀ L' x, L' ++ R = T → Q .normal ((0, .pointer (some ⟨b, 0, none⟩)) :: (3, .pointer (some ⟨b3, 0, none⟩)) :: x) [⟨3, b3, [ic c.id, ic c.found, .string c.text, ic c.version, ic c.law, vm, vp, vb, vt, vo, vu, vq, vc, ic c.fund, .bool c.ended], 50⟩] [Bld 78 b L'] u) :
    W Tryz.prog (chkD Tryz.prog) Tryz.f25.ntmps cx k25_90 Q [(0, .pointer (some ⟨b, 0, none⟩)), (3, .pointer (some ⟨b3, 0, none⟩))] [⟨3, b3, [ic c.id, ic c.found, .string c.text, ic c.version, ic c.law, vm, vp, vb, vt, vo, vu, vq, vc, ic c.fund, .bool c.ended], 50⟩] [Bld 78 b L] u := by
  obtain ⟨a, cc, rfl, hmax, hcap, hrow, hlen⟩ := hv
  simp only [List.length_map] at hmax hcap
  refine W_seq (W_reg ?_)
  simp only [r25_26, sx, Nat.reduceBEq, Nat.reduceAdd, Nat.reduceLeDiff, reduceCtorEq]
  refine W_blk (W_loop (fun m e bx own u' => ∃ i, i ≤ c.turns.length ∧ m = c.turns.length - i ∧ St [(0, .pointer (some ⟨b, 0, none⟩)), (3, .pointer (some ⟨b3, 0, none⟩)), (137, .slice a c.turns.length cc), (138, ic c.turns.length), (139, ic i)] [⟨3, b3, [ic c.id, ic c.found, .string c.text, ic c.version, ic c.law, vm, vp, vb, .slice a c.turns.length cc, vo, vu, vq, vc, ic c.fund, .bool c.ended], 50⟩] (fun own u' => u = u' ∧ ∃ L', own = [Bld 78 b L'] ∧ L' ++ (tAll tI (c.turns.drop i) ++ R) = T) e bx own u') (m := c.turns.length) ⟨0, by omega, by omega, ?_⟩ ?_)
  · rw [List.length_map]; exact .mk ⟨rfl, L, rfl, hL⟩
  clear hL
  rintro m e bx own u' ⟨i, hi, rfl, ⟨rfl, L, rfl, hL⟩⟩
  refine W_seq (W_reg ?_)
  simp only [r25_27, sx, Nat.reduceBEq, Nat.reduceAdd, Nat.reduceLeDiff, reduceCtorEq]
  refine W_seq (W_cnd rfl (fun hc => W_skip ?_) (fun hc => W_exit ?_))
  rotate_left
  · have hge : ¬ i < c.turns.length := by simpa using hc
    rw [List.drop_eq_nil_of_le (by omega), tAll, List.nil_append] at hL
    simp only [sx, Nat.reduceBEq, Nat.reduceAdd, Nat.reduceLeDiff, reduceCtorEq]
    rw [List.length_map] at hK
    exact hK _ _ hL
  have hlt : i < c.turns.length := by simpa using hc
  have hlx : i < c.turns.length := hlt
  obtain ⟨o, off, rfl, hr⟩ := hrow (map_ne hlt)
  have hcell := SlC_at hr hlen (by simpa using hlt)
  rw [List.getElem_map] at hcell
  have hox := ho _ (List.getElem_mem hlx)
  rw [List.drop_eq_getElem_cons hlx, tAll, List.append_assoc] at hL
  generalize c.turns[i] = x at *
  refine W_seq (W_blk ?_)
  refine W_seq (W_reg ?_)
  simp only [r25_28, r25_28a, r25_28b, sx, Nat.reduceBEq, Nat.reduceAdd, Nat.reduceLeDiff, reduceCtorEq]
  refine ⟨by omega, i1 x, hcell.lrow, rfl, ?_⟩
  simp only [sx, Nat.reduceBEq, Nat.reduceAdd, Nat.reduceLeDiff, reduceCtorEq]
  refine W_drw (drawOK mixedP) ?_
  simp only [WSD, A.wpD, r25_29, r25_29a, r25_29b, sx, Nat.reduceBEq, Nat.reduceAdd, Nat.reduceLeDiff, reduceCtorEq]
  refine ⟨_, int_q g hox, ?_⟩
  refine CallWD.own (rest := []) (wstr hT hL) (List.Perm.refl _) ?_
  clear hL
  rintro v own' u3 ⟨rfl, L, rfl, hL⟩ _
  refine W_reg ?_
  simp only [r25_30, sx, Nat.reduceBEq, Nat.reduceAdd, Nat.reduceLeDiff, reduceCtorEq]
  rw [wrapS hlt hmax]
  exact ⟨_, by omega, i + 1, by omega, rfl, .mk ⟨rfl, L, rfl, hL⟩⟩
theorem seg_voices {cx : Ctx} {Q : PQ} {u : Mem} {b b3 : Nat} {b13 nx cx_ ix : Nat} {ax : Option Addr} {y : Proposal} {vw : Value} {c : Circle} {vm vp vb vt vo vu vq vc : Value} {L R T : Str} (hu : cx.u = u) (g : GM u) (hT : T.length ≤ big) (hv : SlF 4 voiceC (MU u) vw y.voices) (ho : ∀ x ∈ y.voices, okVoice x) (hL : L ++ (tAll tVoice y.voices ++ R) = T)
    (hK : ∀ L' x, L' ++ R = T → Q .normal ((0, .pointer (some ⟨b, 0, none⟩)) :: (3, .pointer (some ⟨b3, 0, none⟩)) :: (13, .pointer (some ⟨b13, 0, none⟩)) :: (168, .slice ax nx cx_) :: (169, ic nx) :: (170, ic ix) :: x) [⟨13, b13, [ic y.mark, ic y.day, ic y.kind, vw, ic y.done], 63⟩, ⟨3, b3, [ic c.id, ic c.found, .string c.text, ic c.version, ic c.law, vm, vp, vb, vt, vo, vu, vq, vc, ic c.fund, .bool c.ended], 50⟩] [Bld 78 b L'] u) :
    W Tryz.prog (chkD Tryz.prog) Tryz.f25.ntmps cx k25_57 Q [(0, .pointer (some ⟨b, 0, none⟩)), (3, .pointer (some ⟨b3, 0, none⟩)), (13, .pointer (some ⟨b13, 0, none⟩)), (168, .slice ax nx cx_), (169, ic nx), (170, ic ix)] [⟨13, b13, [ic y.mark, ic y.day, ic y.kind, vw, ic y.done], 63⟩, ⟨3, b3, [ic c.id, ic c.found, .string c.text, ic c.version, ic c.law, vm, vp, vb, vt, vo, vu, vq, vc, ic c.fund, .bool c.ended], 50⟩] [Bld 78 b L] u := by
  obtain ⟨a, cc, rfl, hmax, hcap, hrow, hlen⟩ := hv
  simp only [List.length_map] at hmax hcap
  refine W_seq (W_reg ?_)
  simp only [r25_37, sx, Nat.reduceBEq, Nat.reduceAdd, Nat.reduceLeDiff, reduceCtorEq]
  refine W_blk (W_loop (fun m e bx own u' => ∃ i, i ≤ y.voices.length ∧ m = y.voices.length - i ∧ St [(0, .pointer (some ⟨b, 0, none⟩)), (3, .pointer (some ⟨b3, 0, none⟩)), (13, .pointer (some ⟨b13, 0, none⟩)), (168, .slice ax nx cx_), (169, ic nx), (170, ic ix), (187, .slice a y.voices.length cc), (188, ic y.voices.length), (189, ic i)] [⟨13, b13, [ic y.mark, ic y.day, ic y.kind, .slice a y.voices.length cc, ic y.done], 63⟩, ⟨3, b3, [ic c.id, ic c.found, .string c.text, ic c.version, ic c.law, vm, vp, vb, vt, vo, vu, vq, vc, ic c.fund, .bool c.ended], 50⟩] (fun own u' => u = u' ∧ ∃ L', own = [Bld 78 b L'] ∧ L' ++ (tAll tVoice (y.voices.drop i) ++ R) = T) e bx own u') (m := y.voices.length) ⟨0, by omega, by omega, ?_⟩ ?_)
  · rw [List.length_map]; exact .mk ⟨rfl, L, rfl, hL⟩
  clear hL
  rintro m e bx own u' ⟨i, hi, rfl, ⟨rfl, L, rfl, hL⟩⟩
  refine W_seq (W_reg ?_)
  simp only [r25_38, sx, Nat.reduceBEq, Nat.reduceAdd, Nat.reduceLeDiff, reduceCtorEq]
  refine W_seq (W_cnd rfl (fun hc => W_skip ?_) (fun hc => W_exit ?_))
  rotate_left
  · have hge : ¬ i < y.voices.length := by simpa using hc
    rw [List.drop_eq_nil_of_le (by omega), tAll, List.nil_append] at hL
    simp only [sx, Nat.reduceBEq, Nat.reduceAdd, Nat.reduceLeDiff, reduceCtorEq]
    rw [List.length_map] at hK
    exact hK _ _ hL
  have hlt : i < y.voices.length := by simpa using hc
  have hlx : i < y.voices.length := hlt
  obtain ⟨o, off, rfl, hr⟩ := hrow (map_ne hlt)
  have hcell := SlC_at hr hlen (by simpa using hlt)
  rw [List.getElem_map] at hcell
  have hox := ho _ (List.getElem_mem hlx)
  rw [List.drop_eq_getElem_cons hlx, tAll, List.append_assoc] at hL
  generalize y.voices[i] = x at *
  have hnn := hox
  simp only [okPaid, okVoice, okVoid, nnl_cons] at hnn
  obtain ⟨k1, k2, k3, _⟩ := hnn
  have j1 := nn_i64 k1
  have j2 := nn_i64 k2
  have j3 := nn_i64 k3
  simp only [tVoice, List.append_assoc] at hL
  refine W_seq (W_blk ?_)
  refine W_seq (W_reg ?_)
  simp only [r25_39, r25_39a, r25_39b, r25_39c, sx, Nat.reduceBEq, Nat.reduceAdd, Nat.reduceLeDiff, reduceCtorEq]
  refine ⟨by omega, _, hcell.lrow, rfl, ?_⟩
  simp only [voiceC, sx, Nat.reduceBEq, Nat.reduceAdd, Nat.reduceLeDiff, reduceCtorEq]
  intro b5
  refine W_seq (W_reg ?_)
  simp only [r25_40, r25_40a, r25_40b, sx, Nat.reduceBEq, Nat.reduceAdd, Nat.reduceLeDiff, reduceCtorEq]
  refine .inl ⟨by simp [lenAll, vcells], fun blk u2 hle2 hu2 => ?_⟩
  refine CallW.own (rest := []) (wnum (g.mono hle2) (ints_new (xs := [x.mark, x.who]) (by simp [maxN]) hu2) (by simp [j1, j2]) hT hL) (List.Perm.refl _) ?_
  clear hL
  rintro v own' u3 ⟨rfl, L, rfl, hL⟩ _
  refine W_less hu hle2 ?_
  refine W_seq (W_reg ?_)
  simp only [r25_41, r25_41a, sx, Nat.reduceBEq, Nat.reduceAdd, Nat.reduceLeDiff, reduceCtorEq]
  refine CallW.own (rest := []) (wflag g hT hL) (List.Perm.refl _) ?_
  clear hL
  rintro v own' u3 ⟨rfl, L, rfl, hL⟩ _
  refine W_reg ?_
  simp only [r25_42, r25_42a, r25_42b, sx, Nat.reduceBEq, Nat.reduceAdd, Nat.reduceLeDiff, reduceCtorEq]
  refine .inl ⟨by simp [lenAll, vcells], fun blk u2 hle2 hu2 => ?_⟩
  refine CallW.own (rest := []) (wnum (g.mono hle2) (ints_new (xs := [x.day]) (by simp [maxN]) hu2) (by simp [j3]) hT hL) (List.Perm.refl _) ?_
  clear hL
  rintro v own' u3 ⟨rfl, L, rfl, hL⟩ _
  refine W_less hu hle2 ?_
  refine W_reg ?_
  simp only [r25_43, sx, Nat.reduceBEq, Nat.reduceAdd, Nat.reduceLeDiff, reduceCtorEq]
  rw [wrapS hlt hmax]
  exact ⟨_, by omega, i + 1, by omega, rfl, .mk ⟨rfl, L, rfl, hL⟩⟩
theorem seg_open {cx : Ctx} {Q : PQ} {u : Mem} {b b3 : Nat} {c : Circle} {vm vp vb vt vo vu vq vc : Value} {L R T : Str} (hu : cx.u = u) (g : GM u) (hT : T.length ≤ big) (hv : Sl 5 proposalR (MU u) vq c.op) (ho : ∀ x ∈ c.op, okProposal x) (hL : L ++ (tAll tProposal c.op ++ R) = T)
    (hK : ∀ L' x, L' ++ R = T → Q .normal ((0, .pointer (some ⟨b, 0, none⟩)) :: (3, .pointer (some ⟨b3, 0, none⟩)) :: x) [⟨3, b3, [ic c.id, ic c.found, .string c.text, ic c.version, ic c.law, vm, vp, vb, vt, vo, vu, vq, vc, ic c.fund, .bool c.ended], 50⟩] [Bld 78 b L'] u) :
    W Tryz.prog (chkD Tryz.prog) Tryz.f25.ntmps cx k25_86 Q [(0, .pointer (some ⟨b, 0, none⟩)), (3, .pointer (some ⟨b3, 0, none⟩))] [⟨3, b3, [ic c.id, ic c.found, .string c.text, ic c.version, ic c.law, vm, vp, vb, vt, vo, vu, vq, vc, ic c.fund, .bool c.ended], 50⟩] [Bld 78 b L] u := by
  obtain ⟨css, ⟨a, cc, rfl, hmax, hcap, hrow, hlen⟩, hall⟩ := hv
  have hl := hall.len
  refine W_seq (W_reg ?_)
  simp only [r25_33, sx, Nat.reduceBEq, Nat.reduceAdd, Nat.reduceLeDiff, reduceCtorEq]
  refine W_blk (W_loop (fun m e bx own u' => ∃ i, i ≤ css.length ∧ m = css.length - i ∧ St [(0, .pointer (some ⟨b, 0, none⟩)), (3, .pointer (some ⟨b3, 0, none⟩)), (168, .slice a css.length cc), (169, ic css.length), (170, ic i)] [⟨3, b3, [ic c.id, ic c.found, .string c.text, ic c.version, ic c.law, vm, vp, vb, vt, vo, vu, .slice a css.length cc, vc, ic c.fund, .bool c.ended], 50⟩] (fun own u' => u = u' ∧ ∃ L', own = [Bld 78 b L'] ∧ L' ++ (tAll tProposal (c.op.drop i) ++ R) = T) e bx own u') (m := css.length) ⟨0, by omega, by omega, ?_⟩ ?_)
  · exact .mk ⟨rfl, L, rfl, hL⟩
  clear hL
  rintro m e bx own u' ⟨i, hi, rfl, ⟨rfl, L, rfl, hL⟩⟩
  refine W_seq (W_reg ?_)
  simp only [r25_34, sx, Nat.reduceBEq, Nat.reduceAdd, Nat.reduceLeDiff, reduceCtorEq]
  refine W_seq (W_cnd rfl (fun hc => W_skip ?_) (fun hc => W_exit ?_))
  rotate_left
  · have hge : ¬ i < css.length := by simpa using hc
    rw [List.drop_eq_nil_of_le (by omega), tAll, List.nil_append] at hL
    simp only [sx, Nat.reduceBEq, Nat.reduceAdd, Nat.reduceLeDiff, reduceCtorEq]
    exact hK _ _ hL
  have hlt : i < css.length := by simpa using hc
  have hlx : i < c.op.length := by omega
  obtain ⟨o, off, rfl, hr⟩ := hrow (by intro q; simp [q] at hlt)
  have hcell := SlC_at hr hlen hlt
  have hxi := hall.at_ hlt hlx
  have hox := ho _ (List.getElem_mem hlx)
  rw [List.drop_eq_getElem_cons hlx, tAll, List.append_assoc] at hL
  generalize c.op[i] = x at *
  have hnn := hox.1
  simp only [okPaid, okVoice, okVoid, nnl_cons] at hnn
  obtain ⟨k1, k2, k3, k4, _⟩ := hnn
  have j1 := nn_i64 k1
  have j2 := nn_i64 k2
  have j3 := nn_i64 k3
  have j4 := nn_i64 k4
  obtain ⟨vj, heq, hvj⟩ := hxi
  obtain ⟨aw, cw, rfl, hmw, hvr⟩ := id hvj
  simp only [List.length_map] at hmw
  rw [List.length_map] at hvj
  have j5 := len_i64 hmw
  rw [heq] at hcell
  simp only [tProposal, List.append_assoc] at hL
  refine W_seq (W_blk ?_)
  refine W_seq (W_reg ?_)
  simp only [r25_35, r25_35a, r25_35b, r25_35c, sx, Nat.reduceBEq, Nat.reduceAdd, Nat.reduceLeDiff, reduceCtorEq]
  refine ⟨by omega, _, hcell.lrow, rfl, ?_⟩
  simp only [sx, Nat.reduceBEq, Nat.reduceAdd, Nat.reduceLeDiff, reduceCtorEq]
  intro b5
  refine W_seq (W_reg ?_)
  simp only [r25_36, r25_36a, r25_36b, sx, Nat.reduceBEq, Nat.reduceAdd, Nat.reduceLeDiff, reduceCtorEq]
  rw [List.length_map]
  refine .inl ⟨by simp [lenAll, vcells], fun blk u2 hle2 hu2 => ?_⟩
  refine CallW.own (rest := []) (wnum (g.mono hle2) (ints_new (xs := [x.mark, x.day, x.kind, x.voices.length]) (by simp [maxN]) hu2) (by simp [j1, j2, j3, j5]) hT hL) (List.Perm.refl _) ?_
  clear hL
  rintro v own' u3 ⟨rfl, L, rfl, hL⟩ _
  refine W_less hu hle2 ?_
  refine W_seq (seg_voices hu g hT hvj hox.2.2 hL (fun L' x_ hL' => ?_))
  clear hL
  rename_i hL0
  have hL := hL'
  clear hL'
  simp only [sx, Nat.reduceBEq, Nat.reduceAdd, Nat.reduceLeDiff, reduceCtorEq]
  refine W_reg ?_
  simp only [r25_44, r25_44a, r25_44b, sx, Nat.reduceBEq, Nat.reduceAdd, Nat.reduceLeDiff, reduceCtorEq]
  refine .inl ⟨by simp [lenAll, vcells], fun blk u2 hle2 hu2 => ?_⟩
  refine CallW.own (rest := []) (wnum (g.mono hle2) (ints_new (xs := [x.done]) (by simp [maxN]) hu2) (by simp [j4]) hT hL) (List.Perm.refl _) ?_
  clear hL
  rintro v own' u3 ⟨rfl, L, rfl, hL⟩ _
  refine W_less hu hle2 ?_
  refine W_reg ?_
  simp only [r25_45, sx, Nat.reduceBEq, Nat.reduceAdd, Nat.reduceLeDiff, reduceCtorEq]
  rw [wrapS hlt hmax]
  exact ⟨_, by omega, i + 1, by omega, rfl, .mk ⟨rfl, L, rfl, hL⟩⟩
theorem seg_claims {cx : Ctx} {Q : PQ} {u : Mem} {b b3 : Nat} {c : Circle} {vm vp vb vt vo vu vq vc : Value} {L R T : Str} (hu : cx.u = u) (g : GM u) (hT : T.length ≤ big) (hv : Sl 12 claimR (MU u) vc c.claims) (ho : ∀ x ∈ c.claims, okClaim x) (hL : L ++ (tAll tClaim c.claims ++ R) = T)
    (hK : ∀ L' x, L' ++ R = T → Q .normal ((0, .pointer (some ⟨b, 0, none⟩)) :: (3, .pointer (some ⟨b3, 0, none⟩)) :: x) [⟨3, b3, [ic c.id, ic c.found, .string c.text, ic c.version, ic c.law, vm, vp, vb, vt, vo, vu, vq, vc, ic c.fund, .bool c.ended], 50⟩] [Bld 78 b L'] u) :
    W Tryz.prog (chkD Tryz.prog) Tryz.f25.ntmps cx k25_83 Q [(0, .pointer (some ⟨b, 0, none⟩)), (3, .pointer (some ⟨b3, 0, none⟩))] [⟨3, b3, [ic c.id, ic c.found, .string c.text, ic c.version, ic c.law, vm, vp, vb, vt, vo, vu, vq, vc, ic c.fund, .bool c.ended], 50⟩] [Bld 78 b L] u := by
  obtain ⟨css, ⟨a, cc, rfl, hmax, hcap, hrow, hlen⟩, hall⟩ := hv
  have hl := hall.len
  refine W_seq (W_reg ?_)
  simp only [r25_47, sx, Nat.reduceBEq, Nat.reduceAdd, Nat.reduceLeDiff, reduceCtorEq]
  refine W_blk (W_loop (fun m e bx own u' => ∃ i, i ≤ css.length ∧ m = css.length - i ∧ St [(0, .pointer (some ⟨b, 0, none⟩)), (3, .pointer (some ⟨b3, 0, none⟩)), (223, .slice a css.length cc), (224, ic css.length), (225, ic i)] [⟨3, b3, [ic c.id, ic c.found, .string c.text, ic c.version, ic c.law, vm, vp, vb, vt, vo, vu, vq, .slice a css.length cc, ic c.fund, .bool c.ended], 50⟩] (fun own u' => u = u' ∧ ∃ L', own = [Bld 78 b L'] ∧ L' ++ (tAll tClaim (c.claims.drop i) ++ R) = T) e bx own u') (m := css.length) ⟨0, by omega, by omega, ?_⟩ ?_)
  · exact .mk ⟨rfl, L, rfl, hL⟩
  clear hL
  rintro m e bx own u' ⟨i, hi, rfl, ⟨rfl, L, rfl, hL⟩⟩
  refine W_seq (W_reg ?_)
  simp only [r25_48, sx, Nat.reduceBEq, Nat.reduceAdd, Nat.reduceLeDiff, reduceCtorEq]
  refine W_seq (W_cnd rfl (fun hc => W_skip ?_) (fun hc => W_exit ?_))
  rotate_left
  · have hge : ¬ i < css.length := by simpa using hc
    rw [List.drop_eq_nil_of_le (by omega), tAll, List.nil_append] at hL
    simp only [sx, Nat.reduceBEq, Nat.reduceAdd, Nat.reduceLeDiff, reduceCtorEq]
    exact hK _ _ hL
  have hlt : i < css.length := by simpa using hc
  have hlx : i < c.claims.length := by omega
  obtain ⟨o, off, rfl, hr⟩ := hrow (by intro q; simp [q] at hlt)
  have hcell := SlC_at hr hlen hlt
  have hxi := hall.at_ hlt hlx
  have hox := ho _ (List.getElem_mem hlx)
  rw [List.drop_eq_getElem_cons hlx, tAll, List.append_assoc] at hL
  generalize c.claims[i] = x at *
  have hnn := hox.1
  simp only [okPaid, okVoice, okVoid, nnl_cons] at hnn
  obtain ⟨k1, k2, k3, k4, k5, k6, k7, k8, k9, k10, _⟩ := hnn
  have j1 := nn_i64 k1
  have j2 := nn_i64 k2
  have j3 := nn_i64 k3
  have j4 := nn_i64 k4
  have j5 := nn_i64 k5
  have j6 := nn_i64 k6
  have j7 := nn_i64 k7
  have j8 := nn_i64 k8
  have j9 := nn_i64 k9
  have j10 := nn_i64 k10
  obtain ⟨vj, wj, heq, hvj, hwj⟩ := hxi
  rw [heq] at hcell
  simp only [tClaim, List.append_assoc] at hL
  have hl1 := tL_lim (l := x.jury) hox.2.1.1
  have hl2 := tL_lim (l := x.again) hox.2.2.1
  unfold maxN at hl1 hl2
  refine W_seq (W_blk ?_)
  refine W_seq (W_reg ?_)
  simp only [r25_49, r25_49a, r25_49b, r25_49c, sx, Nat.reduceBEq, Nat.reduceAdd, Nat.reduceLeDiff, reduceCtorEq]
  refine ⟨by omega, _, hcell.lrow, rfl, ?_⟩
  simp only [sx, Nat.reduceBEq, Nat.reduceAdd, Nat.reduceLeDiff, reduceCtorEq]
  intro b5
  refine ⟨⟨hvj.one, hwj.one⟩, ?_⟩
  refine W_seq (W_reg ?_)
  simp only [r25_50, r25_50a, r25_50b, sx, Nat.reduceBEq, Nat.reduceAdd, Nat.reduceLeDiff, reduceCtorEq]
  refine .inl ⟨by simp [lenAll, vcells], fun blk u2 hle2 hu2 => ?_⟩
  refine CallW.own (rest := []) (wnum (g.mono hle2) (ints_new (xs := [x.mark, x.circle, x.who, x.n, x.event, x.day, x.proofs]) (by simp [maxN]) hu2) (by simp [j1, j2, j3, j4, j5, j6, j7]) hT hL) (List.Perm.refl _) ?_
  clear hL
  rintro v own' u3 ⟨rfl, L, rfl, hL⟩ _
  refine W_less hu hle2 ?_
  refine W_seq (W_drw (drawOK mixedP) ?_)
  simp only [WSD, A.wpD, r25_51, r25_51a, r25_51b, r25_51c, r25_51d, r25_51e, sx, Nat.reduceBEq, Nat.reduceAdd, Nat.reduceLeDiff, reduceCtorEq]
  refine ⟨_, nums_q g hvj hox.2.1.2, ?_⟩
  refine ⟨_, nums_q g hwj hox.2.2.2, ?_⟩
  simp only [WSD, A.wpD, ba_app, ba_size, sx, Nat.reduceBEq, Nat.reduceAdd, Nat.reduceLeDiff, reduceCtorEq]
  refine ⟨by omega, ?_⟩
  refine CallWD.own (rest := []) (wstr hT (by rw [List.append_assoc]; exact hL)) (List.Perm.refl _) ?_
  clear hL
  rintro v own' u3 ⟨rfl, L, rfl, hL⟩ _
  refine W_reg ?_
  simp only [r25_52, r25_52a, r25_52b, sx, Nat.reduceBEq, Nat.reduceAdd, Nat.reduceLeDiff, reduceCtorEq]
  refine .inl ⟨by simp [lenAll, vcells], fun blk u2 hle2 hu2 => ?_⟩
  refine CallW.own (rest := []) (wnum (g.mono hle2) (ints_new (xs := [x.state, x.grant, x.from_]) (by simp [maxN]) hu2) (by simp [j8, j9, j10]) hT hL) (List.Perm.refl _) ?_
  clear hL
  rintro v own' u3 ⟨rfl, L, rfl, hL⟩ _
  refine W_less hu hle2 ?_
  refine W_reg ?_
  simp only [r25_53, sx, Nat.reduceBEq, Nat.reduceAdd, Nat.reduceLeDiff, reduceCtorEq]
  rw [wrapS hlt hmax]
  exact ⟨_, by omega, i + 1, by omega, rfl, .mk ⟨rfl, L, rfl, hL⟩⟩
end Go.Proofs.YtenmmfkgopffgaaGreatDoor

set_option maxRecDepth 4000
namespace Go.Proofs.YtenmmfkgopffgaaGreatDoor
open Go

set_option maxHeartbeats 1000000 in
theorem wcircle {b : Nat} {cs : List Value} {c : Circle} {u : Mem} {L R T : Str} (g : GM u) (hc : circleR (MU u) cs c) (ho : okCircle c) (hT : T.length ≤ big) (hL : L ++ (tCircle c ++ R) = T) :
    Fn Tryz.prog 25 [.pointer (some ⟨b, 0, none⟩), .agg cs.toArray] [Bld 78 b L] u (WQ T R b u) := by
  obtain ⟨vm, vp, vb, vt, vo, vu, vq, vc, rfl, ht, hm, hp, hb, htu, hpo, hou, hq, hcl⟩ := hc
  obtain ⟨on, os_, om, op, ob, ot, oo, ou, oq, oc, of_⟩ := ho
  simp only [nnl_cons] at on
  obtain ⟨k1, k2, k3, k4, _⟩ := on
  have j1 := nn_i64 k1; have j2 := nn_i64 k2; have j3 := nn_i64 k3; have j4 := nn_i64 k4
  obtain ⟨am, cm, rfl, lm⟩ := hm.formL
  obtain ⟨ap, cp, rfl, lp⟩ := hp.formL
  obtain ⟨ab, cb, rfl, lb⟩ := hb.formL
  obtain ⟨at_, ct, rfl, lt⟩ := htu.formL
  obtain ⟨aq, cq, rfl, lq⟩ := hq.formL
  obtain ⟨ac, cc, rfl, lc⟩ := hcl.formL
  have i5 := len_i64 lm; have i6 := len_i64 lp; have i7 := len_i64 lb; have i8 := len_i64 lt; have i9 := len_i64 lq; have i10 := len_i64 lc
  have hl1 := tL_lim (l := c.pots) oo.1
  have hl2 := tL_lim (l := c.out) ou.1
  unfold maxN at hl1 hl2
  simp only [tCircle, List.append_assoc] at hL
  refine fn25 fun cx hu => ?_
  refine W_seq (W_reg ?_)
  simp only [r25_0, sx, Nat.reduceBEq, Nat.reduceAdd, Nat.reduceLeDiff, reduceCtorEq]
  intro b3
  refine W_seq (W_reg ?_)
  simp only [r25_1, r25_1a, r25_1b, sx, Nat.reduceBEq, Nat.reduceAdd, Nat.reduceLeDiff, reduceCtorEq]
  refine .inl ⟨by simp [lenAll, vcells], fun blk u2 hle2 hu2 => ?_⟩
  refine CallW.own (rest := []) (wnum (g.mono hle2) (ints_new (xs := [c.id, c.found]) (by simp [maxN]) hu2) (by simp [j1, j2]) hT hL) (List.Perm.refl _) ?_
  clear hL
  rintro v own' u3 ⟨rfl, L, rfl, hL⟩ _
  refine W_less hu hle2 ?_
  refine W_seq (W_drw (drawOK mixedP) ?_)
  simp only [WSD, A.wpD, r25_2, r25_2a, r25_2b, sx, Nat.reduceBEq, Nat.reduceAdd, Nat.reduceLeDiff, reduceCtorEq]
  refine ⟨_, text_q g ht, ?_⟩
  refine CallWD.own (rest := []) (wstr hT hL) (List.Perm.refl _) ?_
  clear hL
  rintro v own' u3 ⟨rfl, L, rfl, hL⟩ _
  refine W_seq (W_reg ?_)
  simp only [r25_3, r25_3a, r25_3b, sx, Nat.reduceBEq, Nat.reduceAdd, Nat.reduceLeDiff, reduceCtorEq]
  refine .inl ⟨by simp [lenAll, vcells], fun blk u2 hle2 hu2 => ?_⟩
  refine CallW.own (rest := []) (wnum (g.mono hle2) (ints_new (xs := [c.version, c.law, c.members.length]) (by simp [maxN]) hu2) (by simp [j3, j4, i5]) hT hL) (List.Perm.refl _) ?_
  clear hL
  rintro v own' u3 ⟨rfl, L, rfl, hL⟩ _
  refine W_less hu hle2 ?_
  refine W_seq (seg_members hu g hT hm om.2 hL ?_)
  clear hL
  rintro L x hL
  refine W_seq (W_reg ?_)
  simp only [r25_11, r25_11a, r25_11b, sx, Nat.reduceBEq, Nat.reduceAdd, Nat.reduceLeDiff, reduceCtorEq]
  refine .inl ⟨by simp [lenAll, vcells], fun blk u2 hle2 hu2 => ?_⟩
  refine CallW.own (rest := []) (wnum (g.mono hle2) (ints_new (xs := [c.paid.length]) (by simp [maxN]) hu2) (by simp [i6]) hT hL) (List.Perm.refl _) ?_
  clear hL
  rintro v own' u3 ⟨rfl, L, rfl, hL⟩ _
  refine W_less hu hle2 ?_
  refine W_seq (seg_paid hu g hT hp op.2 hL ?_)
  clear hL
  rintro L x hL
  refine W_seq (W_reg ?_)
  simp only [r25_17, r25_17a, r25_17b, sx, Nat.reduceBEq, Nat.reduceAdd, Nat.reduceLeDiff, reduceCtorEq]
  refine .inl ⟨by simp [lenAll, vcells], fun blk u2 hle2 hu2 => ?_⟩
  refine CallW.own (rest := []) (wnum (g.mono hle2) (ints_new (xs := [c.bids.length]) (by simp [maxN]) hu2) (by simp [i7]) hT hL) (List.Perm.refl _) ?_
  clear hL
  rintro v own' u3 ⟨rfl, L, rfl, hL⟩ _
  refine W_less hu hle2 ?_
  refine W_seq (seg_bids hu g hT hb ob.2 hL ?_)
  clear hL
  rintro L x hL
  refine W_seq (W_reg ?_)
  simp only [r25_25, r25_25a, r25_25b, sx, Nat.reduceBEq, Nat.reduceAdd, Nat.reduceLeDiff, reduceCtorEq]
  refine .inl ⟨by simp [lenAll, vcells], fun blk u2 hle2 hu2 => ?_⟩
  refine CallW.own (rest := []) (wnum (g.mono hle2) (ints_new (xs := [c.turns.length]) (by simp [maxN]) hu2) (by simp [i8]) hT hL) (List.Perm.refl _) ?_
  clear hL
  rintro v own' u3 ⟨rfl, L, rfl, hL⟩ _
  refine W_less hu hle2 ?_
  refine W_seq (seg_turns hu g hT htu ot.2 hL ?_)
  clear hL
  rintro L x hL
  refine W_seq (W_drw (drawOK mixedP) ?_)
  simp only [WSD, A.wpD, r25_31, r25_31a, r25_31b, r25_31c, r25_31d, r25_31e, sx, Nat.reduceBEq, Nat.reduceAdd, Nat.reduceLeDiff, reduceCtorEq]
  refine ⟨_, nums_q g hpo oo.2, ?_⟩
  refine ⟨_, nums_q g hou ou.2, ?_⟩
  simp only [WSD, A.wpD, ba_app, ba_size, sx, Nat.reduceBEq, Nat.reduceAdd, Nat.reduceLeDiff, reduceCtorEq]
  refine ⟨by omega, ?_⟩
  refine CallWD.own (rest := []) (wstr hT (by rw [List.append_assoc]; exact hL)) (List.Perm.refl _) ?_
  clear hL
  rintro v own' u3 ⟨rfl, L, rfl, hL⟩ _
  refine W_seq (W_reg ?_)
  simp only [r25_32, r25_32a, r25_32b, sx, Nat.reduceBEq, Nat.reduceAdd, Nat.reduceLeDiff, reduceCtorEq]
  refine .inl ⟨by simp [lenAll, vcells], fun blk u2 hle2 hu2 => ?_⟩
  refine CallW.own (rest := []) (wnum (g.mono hle2) (ints_new (xs := [c.op.length]) (by simp [maxN]) hu2) (by simp [i9]) hT hL) (List.Perm.refl _) ?_
  clear hL
  rintro v own' u3 ⟨rfl, L, rfl, hL⟩ _
  refine W_less hu hle2 ?_
  refine W_seq (seg_open hu g hT hq oq.2 hL ?_)
  clear hL
  rintro L x hL
  refine W_seq (W_reg ?_)
  simp only [r25_46, r25_46a, r25_46b, sx, Nat.reduceBEq, Nat.reduceAdd, Nat.reduceLeDiff, reduceCtorEq]
  refine .inl ⟨by simp [lenAll, vcells], fun blk u2 hle2 hu2 => ?_⟩
  refine CallW.own (rest := []) (wnum (g.mono hle2) (ints_new (xs := [c.claims.length]) (by simp [maxN]) hu2) (by simp [i10]) hT hL) (List.Perm.refl _) ?_
  clear hL
  rintro v own' u3 ⟨rfl, L, rfl, hL⟩ _
  refine W_less hu hle2 ?_
  refine W_seq (seg_claims hu g hT hcl oc.2 hL ?_)
  clear hL
  rintro L x hL
  refine W_seq (W_drw (drawOK mixedP) ?_)
  simp only [WSD, A.wpD, r25_54, r25_54a, r25_54b, sx, Nat.reduceBEq, Nat.reduceAdd, Nat.reduceLeDiff, reduceCtorEq]
  refine ⟨_, int_q g of_, ?_⟩
  refine CallWD.own (rest := []) (wstr hT hL) (List.Perm.refl _) ?_
  clear hL
  rintro v own' u3 ⟨rfl, L, rfl, hL⟩ _
  refine W_reg ?_
  simp only [r25_55, r25_55a, sx, Nat.reduceBEq, Nat.reduceAdd, Nat.reduceLeDiff, reduceCtorEq]
  refine CallW.own (rest := []) (wflag g hT hL) (List.Perm.refl _) ?_
  clear hL
  rintro v own' u3 ⟨rfl, L, rfl, hL⟩ _
  exact RetQ.out rfl trivial ⟨rfl, L, rfl, hL⟩
end Go.Proofs.YtenmmfkgopffgaaGreatDoor

set_option maxRecDepth 4000
namespace Go.Proofs.YtenmmfkgopffgaaGreatDoor
open Go
theorem seg_circles {cx : Ctx} {Q : PQ} {u : Mem} {b b1 : Nat} {s : State} {vk vc vl vv : Value} {L R T : Str} (hu : cx.u = u) (g : GM u) (hT : T.length ≤ big) (hv : Sl 15 circleR (MU u) vc s.circles) (ho : ∀ x ∈ s.circles, okCircle x) (hL : L ++ (tAll tCircle s.circles ++ R) = T)
    (hK : ∀ L' x, L' ++ R = T → Q .normal ((1, .pointer (some ⟨b1, 0, none⟩)) :: (3, .pointer (some ⟨b, 0, none⟩)) :: x) [⟨1, b1, [ic s.day, vk, vc, vl, vv], 27⟩] [Bld 78 b L'] u) :
    W Tryz.prog (chkD Tryz.prog) Tryz.f8.ntmps cx k8_40 Q [(1, .pointer (some ⟨b1, 0, none⟩)), (3, .pointer (some ⟨b, 0, none⟩))] [⟨1, b1, [ic s.day, vk, vc, vl, vv], 27⟩] [Bld 78 b L] u := by
  obtain ⟨css, ⟨a, cc, rfl, hmax, hcap, hrow, hlen⟩, hall⟩ := hv
  have hl := hall.len
  refine W_seq (W_reg ?_)
  simp only [r8_7, sx, Nat.reduceBEq, Nat.reduceAdd, Nat.reduceLeDiff, reduceCtorEq]
  refine W_blk (W_loop (fun m e bx own u' => ∃ i, i ≤ css.length ∧ m = css.length - i ∧ St [(1, .pointer (some ⟨b1, 0, none⟩)), (3, .pointer (some ⟨b, 0, none⟩)), (34, .slice a css.length cc), (35, ic css.length), (36, ic i)] [⟨1, b1, [ic s.day, vk, .slice a css.length cc, vl, vv], 27⟩] (fun own u' => u = u' ∧ ∃ L', own = [Bld 78 b L'] ∧ L' ++ (tAll tCircle (s.circles.drop i) ++ R) = T) e bx own u') (m := css.length) ⟨0, by omega, by omega, ?_⟩ ?_)
  · exact .mk ⟨rfl, L, rfl, hL⟩
  clear hL
  rintro m e bx own u' ⟨i, hi, rfl, ⟨rfl, L, rfl, hL⟩⟩
  refine W_seq (W_reg ?_)
  simp only [r8_8, sx, Nat.reduceBEq, Nat.reduceAdd, Nat.reduceLeDiff, reduceCtorEq]
  refine W_seq (W_cnd rfl (fun hc => W_skip ?_) (fun hc => W_exit ?_))
  rotate_left
  · have hge : ¬ i < css.length := by simpa using hc
    rw [List.drop_eq_nil_of_le (by omega), tAll, List.nil_append] at hL
    simp only [sx, Nat.reduceBEq, Nat.reduceAdd, Nat.reduceLeDiff, reduceCtorEq]
    exact hK _ _ hL
  have hlt : i < css.length := by simpa using hc
  have hlx : i < s.circles.length := by omega
  obtain ⟨o, off, rfl, hr⟩ := hrow (by intro q; simp [q] at hlt)
  have hcell := SlC_at hr hlen hlt
  have hxi := hall.at_ hlt hlx
  have hox := ho _ (List.getElem_mem hlx)
  rw [List.drop_eq_getElem_cons hlx, tAll, List.append_assoc] at hL
  generalize s.circles[i] = x at *
  obtain ⟨um, up, ub, ut, uo, uu, uq, uc, heq, ht, hm, hp, hb_, htu, hpo, hou, hq, hcl⟩ := id hxi
  rw [heq] at hcell hxi
  refine W_seq (W_blk ?_)
  refine W_seq (W_reg ?_)
  simp only [r8_9, r8_9a, r8_9b, r8_9c, sx, Nat.reduceBEq, Nat.reduceAdd, Nat.reduceLeDiff, reduceCtorEq]
  refine ⟨by omega, _, hcell.lrow, rfl, ?_⟩
  simp only [sx, Nat.reduceBEq, Nat.reduceAdd, Nat.reduceLeDiff, reduceCtorEq]
  intro b5
  refine ⟨⟨hm.one, hp.one, hb_.one, htu.one, hpo.one, hou.one, hq.one, hcl.one⟩, ?_⟩
  refine W_reg ?_
  simp only [r8_10, r8_10a, sx, Nat.reduceBEq, Nat.reduceAdd, Nat.reduceLeDiff, reduceCtorEq]
  refine CallW.own (rest := []) (wcircle g hxi hox hT hL) (List.Perm.refl _) ?_
  clear hL
  rintro v own' u3 ⟨rfl, L, rfl, hL⟩ _
  refine W_reg ?_
  simp only [r8_11, sx, Nat.reduceBEq, Nat.reduceAdd, Nat.reduceLeDiff, reduceCtorEq]
  rw [wrapS hlt hmax]
  exact ⟨_, by omega, i + 1, by omega, rfl, .mk ⟨rfl, L, rfl, hL⟩⟩
theorem seg_lots {cx : Ctx} {Q : PQ} {u : Mem} {b b1 : Nat} {s : State} {vk vc vl vv : Value} {L R T : Str} (hu : cx.u = u) (g : GM u) (hT : T.length ≤ big) (hv : SlF 7 lotC (MU u) vl s.lots) (ho : ∀ x ∈ s.lots, okLot x) (hL : L ++ (tAll tLot s.lots ++ R) = T)
    (hK : ∀ L' x, L' ++ R = T → Q .normal ((1, .pointer (some ⟨b1, 0, none⟩)) :: (3, .pointer (some ⟨b, 0, none⟩)) :: x) [⟨1, b1, [ic s.day, vk, vc, vl, vv], 27⟩] [Bld 78 b L'] u) :
    W Tryz.prog (chkD Tryz.prog) Tryz.f8.ntmps cx k8_37 Q [(1, .pointer (some ⟨b1, 0, none⟩)), (3, .pointer (some ⟨b, 0, none⟩))] [⟨1, b1, [ic s.day, vk, vc, vl, vv], 27⟩] [Bld 78 b L] u := by
  obtain ⟨a, cc, rfl, hmax, hcap, hrow, hlen⟩ := hv
  simp only [List.length_map] at hmax hcap
  refine W_seq (W_reg ?_)
  simp only [r8_13, sx, Nat.reduceBEq, Nat.reduceAdd, Nat.reduceLeDiff, reduceCtorEq]
  refine W_blk (W_loop (fun m e bx own u' => ∃ i, i ≤ s.lots.length ∧ m = s.lots.length - i ∧ St [(1, .pointer (some ⟨b1, 0, none⟩)), (3, .pointer (some ⟨b, 0, none⟩)), (51, .slice a s.lots.length cc), (52, ic s.lots.length), (53, ic i)] [⟨1, b1, [ic s.day, vk, vc, .slice a s.lots.length cc, vv], 27⟩] (fun own u' => u = u' ∧ ∃ L', own = [Bld 78 b L'] ∧ L' ++ (tAll tLot (s.lots.drop i) ++ R) = T) e bx own u') (m := s.lots.length) ⟨0, by omega, by omega, ?_⟩ ?_)
  · rw [List.length_map]; exact .mk ⟨rfl, L, rfl, hL⟩
  clear hL
  rintro m e bx own u' ⟨i, hi, rfl, ⟨rfl, L, rfl, hL⟩⟩
  refine W_seq (W_reg ?_)
  simp only [r8_14, sx, Nat.reduceBEq, Nat.reduceAdd, Nat.reduceLeDiff, reduceCtorEq]
  refine W_seq (W_cnd rfl (fun hc => W_skip ?_) (fun hc => W_exit ?_))
  rotate_left
  · have hge : ¬ i < s.lots.length := by simpa using hc
    rw [List.drop_eq_nil_of_le (by omega), tAll, List.nil_append] at hL
    simp only [sx, Nat.reduceBEq, Nat.reduceAdd, Nat.reduceLeDiff, reduceCtorEq]
    rw [List.length_map] at hK
    exact hK _ _ hL
  have hlt : i < s.lots.length := by simpa using hc
  have hlx : i < s.lots.length := hlt
  obtain ⟨o, off, rfl, hr⟩ := hrow (map_ne hlt)
  have hcell := SlC_at hr hlen (by simpa using hlt)
  rw [List.getElem_map] at hcell
  have hox := ho _ (List.getElem_mem hlx)
  rw [List.drop_eq_getElem_cons hlx, tAll, List.append_assoc] at hL
  generalize s.lots[i] = x at *
  have hnn := hox.1
  simp only [okPaid, okVoice, okVoid, nnl_cons] at hnn
  obtain ⟨k1, k2, k3, k4, k5, k6, _⟩ := hnn
  have j1 := nn_i64 k1
  have j2 := nn_i64 k2
  have j3 := nn_i64 k3
  have j4 := nn_i64 k4
  have j5 := nn_i64 k5
  have j6 := nn_i64 k6
  simp only [tLot, List.append_assoc] at hL
  refine W_seq (W_blk ?_)
  refine W_seq (W_reg ?_)
  simp only [r8_15, r8_15a, r8_15b, r8_15c, sx, Nat.reduceBEq, Nat.reduceAdd, Nat.reduceLeDiff, reduceCtorEq]
  refine ⟨by omega, _, hcell.lrow, rfl, ?_⟩
  simp only [lotC, sx, Nat.reduceBEq, Nat.reduceAdd, Nat.reduceLeDiff, reduceCtorEq]
  intro b5
  refine W_seq (W_reg ?_)
  simp only [r8_16, r8_16a, r8_16b, sx, Nat.reduceBEq, Nat.reduceAdd, Nat.reduceLeDiff, reduceCtorEq]
  refine .inl ⟨by simp [lenAll, vcells], fun blk u2 hle2 hu2 => ?_⟩
  refine CallW.own (rest := []) (wnum (g.mono hle2) (ints_new (xs := [x.mark, x.from_, x.to_, x.owner, x.holder, x.until_]) (by simp [maxN]) hu2) (by simp [j1, j2, j3, j4, j5, j6]) hT hL) (List.Perm.refl _) ?_
  clear hL
  rintro v own' u3 ⟨rfl, L, rfl, hL⟩ _
  refine W_less hu hle2 ?_
  refine W_drw (drawOK mixedP) ?_
  simp only [WSD, A.wpD, r8_17, r8_17a, r8_17b, sx, Nat.reduceBEq, Nat.reduceAdd, Nat.reduceLeDiff, reduceCtorEq]
  refine ⟨_, int_q g hox.2, ?_⟩
  refine CallWD.own (rest := []) (wstr hT hL) (List.Perm.refl _) ?_
  clear hL
  rintro v own' u3 ⟨rfl, L, rfl, hL⟩ _
  refine W_reg ?_
  simp only [r8_18, sx, Nat.reduceBEq, Nat.reduceAdd, Nat.reduceLeDiff, reduceCtorEq]
  rw [wrapS hlt hmax]
  exact ⟨_, by omega, i + 1, by omega, rfl, .mk ⟨rfl, L, rfl, hL⟩⟩
theorem seg_voids {cx : Ctx} {Q : PQ} {u : Mem} {b b1 : Nat} {s : State} {vk vc vl vv : Value} {L R T : Str} (hu : cx.u = u) (g : GM u) (hT : T.length ≤ big) (hv : SlF 2 voidC (MU u) vv s.voids) (ho : ∀ x ∈ s.voids, okVoid x) (hL : L ++ (tAll tVoid s.voids ++ R) = T)
    (hK : ∀ L' x, L' ++ R = T → Q .normal ((3, .pointer (some ⟨b, 0, none⟩)) :: x) [] [Bld 78 b L'] u) :
    W Tryz.prog (chkD Tryz.prog) Tryz.f8.ntmps cx k8_34 Q [(1, .pointer (some ⟨b1, 0, none⟩)), (3, .pointer (some ⟨b, 0, none⟩))] [⟨1, b1, [ic s.day, vk, vc, vl, vv], 27⟩] [Bld 78 b L] u := by
  obtain ⟨a, cc, rfl, hmax, hcap, hrow, hlen⟩ := hv
  simp only [List.length_map] at hmax hcap
  refine W_seq (W_reg ?_)
  simp only [r8_20, sx, Nat.reduceBEq, Nat.reduceAdd, Nat.reduceLeDiff, reduceCtorEq]
  refine W_blk (W_loop (fun m e bx own u' => ∃ i, i ≤ s.voids.length ∧ m = s.voids.length - i ∧ St [(3, .pointer (some ⟨b, 0, none⟩)), (90, .slice a s.voids.length cc), (91, ic s.voids.length), (92, ic i)] [] (fun own u' => u = u' ∧ ∃ L', own = [Bld 78 b L'] ∧ L' ++ (tAll tVoid (s.voids.drop i) ++ R) = T) e bx own u') (m := s.voids.length) ⟨0, by omega, by omega, ?_⟩ ?_)
  · rw [List.length_map]; exact .mk ⟨rfl, L, rfl, hL⟩
  clear hL
  rintro m e bx own u' ⟨i, hi, rfl, ⟨rfl, L, rfl, hL⟩⟩
  refine W_seq (W_reg ?_)
  simp only [r8_21, sx, Nat.reduceBEq, Nat.reduceAdd, Nat.reduceLeDiff, reduceCtorEq]
  refine W_seq (W_cnd rfl (fun hc => W_skip ?_) (fun hc => W_exit ?_))
  rotate_left
  · have hge : ¬ i < s.voids.length := by simpa using hc
    rw [List.drop_eq_nil_of_le (by omega), tAll, List.nil_append] at hL
    simp only [sx, Nat.reduceBEq, Nat.reduceAdd, Nat.reduceLeDiff, reduceCtorEq]
    exact hK _ _ hL
  have hlt : i < s.voids.length := by simpa using hc
  have hlx : i < s.voids.length := hlt
  obtain ⟨o, off, rfl, hr⟩ := hrow (map_ne hlt)
  have hcell := SlC_at hr hlen (by simpa using hlt)
  rw [List.getElem_map] at hcell
  have hox := ho _ (List.getElem_mem hlx)
  rw [List.drop_eq_getElem_cons hlx, tAll, List.append_assoc] at hL
  generalize s.voids[i] = x at *
  have hnn := hox
  simp only [okPaid, okVoice, okVoid, nnl_cons] at hnn
  obtain ⟨k1, k2, _⟩ := hnn
  have j1 := nn_i64 k1
  have j2 := nn_i64 k2
  simp only [tVoid] at hL
  refine W_seq (W_blk ?_)
  refine W_seq (W_reg ?_)
  simp only [r8_22, r8_22a, r8_22b, r8_22c, sx, Nat.reduceBEq, Nat.reduceAdd, Nat.reduceLeDiff, reduceCtorEq]
  refine ⟨by omega, _, hcell.lrow, rfl, ?_⟩
  simp only [voidC, sx, Nat.reduceBEq, Nat.reduceAdd, Nat.reduceLeDiff, reduceCtorEq]
  intro b5
  refine W_reg ?_
  simp only [r8_23, r8_23a, r8_23b, sx, Nat.reduceBEq, Nat.reduceAdd, Nat.reduceLeDiff, reduceCtorEq]
  refine .inl ⟨by simp [lenAll, vcells], fun blk u2 hle2 hu2 => ?_⟩
  refine CallW.own (rest := []) (wnum (g.mono hle2) (ints_new (xs := [x.mark, x.err]) (by simp [maxN]) hu2) (by simp [j1, j2]) hT hL) (List.Perm.refl _) ?_
  clear hL
  rintro v own' u3 ⟨rfl, L, rfl, hL⟩ _
  refine W_less hu hle2 ?_
  refine W_reg ?_
  simp only [r8_24, sx, Nat.reduceBEq, Nat.reduceAdd, Nat.reduceLeDiff, reduceCtorEq]
  rw [wrapS hlt hmax]
  exact ⟨_, by omega, i + 1, by omega, rfl, .mk ⟨rfl, L, rfl, hL⟩⟩
theorem text_c {cs : List Value} {s : State} {u : Mem} (g : GM u) (hv : stateR (MU u) cs s) (hok : rightB s = true → okState s ∧ (tState s).length ≤ big) : QFn Tryz.prog 8 [.agg cs.toArray] u (sv (textB s)) := by
  have hv0 := hv
  obtain ⟨vk, vc, vl, vv, rfl, hk, hc, hl, hvo⟩ := hv
  obtain ⟨ac, cc, rfl, lc⟩ := hc.formL
  obtain ⟨al, cl, rfl, ll⟩ := hl.formL
  obtain ⟨av, cv, rfl, lv⟩ := hvo.formL
  obtain ⟨ak, ck, rfl, lk_⟩ := hk.formL
  have i5 := len_i64 lc
  have i6 := len_i64 ll
  have i7 := len_i64 lv
  refine fn8 fun cx hu => ?_
  refine W_seq (W_reg ?_)
  simp only [r8_0, r8_0a, sx, Nat.reduceBEq, Nat.reduceAdd, Nat.reduceLeDiff, reduceCtorEq]
  intro b1
  try refine ⟨⟨hk.one, hc.one, hl.one, hvo.one⟩, ?_⟩
  refine W_seq ?_
  refine W_seq (W_reg ?_)
  simp only [r8_1, r8_1a, r8_1b, sx, Nat.reduceBEq, Nat.reduceAdd, Nat.reduceLeDiff, reduceCtorEq]
  refine ⟨_, right_c hv0, ?_⟩
  simp only [sx, Nat.reduceBEq, Nat.reduceAdd, Nat.reduceLeDiff, reduceCtorEq]
  refine W_cnd rfl (fun hb => ?_) (fun hb => W_skip ?_)
  · refine W_seq (W_reg ?_)
    simp only [r8_2, sx, Nat.reduceBEq, Nat.reduceAdd, Nat.reduceLeDiff, reduceCtorEq]
    refine W_ret (RetQ.outQ hu (mle_refl _) rfl trivial ⟨?_, rfl, rfl⟩)
    have : rightB s = false := by simpa using hb
    rw [textB, this]; rfl
  have hr : rightB s = true := by simpa using hb
  obtain ⟨⟨od, ok_, oc, ol, ov⟩, hT⟩ := hok hr
  have j1 := nn_i64 od
  have hne := ne_state (m := s) ⟨od, ok_, oc, ol, ov⟩
  rw [textB, hr]
  simp only [cond_true]
  have hL : [] ++ (tState s ++ []) = tState s := by simp
  conv at hL => lhs; rw [tState]; simp only [List.append_assoc]
  generalize tState s = T at hT hL hne ⊢
  refine W_seq (W_reg ?_)
  simp only [r8_3, r8_3a, r8_3b, mksV, sx, Nat.reduceBEq, Nat.reduceAdd, Nat.reduceLeDiff, reduceCtorEq]
  intro b
  refine W_bld ?_
  refine W_seq (W_reg ?_)
  simp only [r8_4, r8_4a, r8_4b, sx, Nat.reduceBEq, Nat.reduceAdd, Nat.reduceLeDiff, reduceCtorEq]
  refine .inl ⟨by simp [lenAll, vcells], fun blk u2 hle2 hu2 => ?_⟩
  refine CallW.own (rest := []) (wnum (g.mono hle2) (ints_new (xs := [s.day]) (by simp [maxN]) hu2) (by simp [j1]) hT hL) (List.Perm.refl _) ?_
  clear hL
  rintro v own' u3 ⟨rfl, L, rfl, hL⟩ _
  refine W_less hu hle2 ?_
  refine W_seq (W_drw (drawOK mixedP) ?_)
  simp only [WSD, A.wpD, r8_5, r8_5a, r8_5b, sx, Nat.reduceBEq, Nat.reduceAdd, Nat.reduceLeDiff, reduceCtorEq]
  refine ⟨_, nums_q g hk ok_.2, ?_⟩
  refine CallWD.own (rest := []) (wstr hT hL) (List.Perm.refl _) ?_
  clear hL
  rintro v own' u3 ⟨rfl, L, rfl, hL⟩ _
  refine W_seq (W_reg ?_)
  simp only [r8_6, r8_6a, r8_6b, sx, Nat.reduceBEq, Nat.reduceAdd, Nat.reduceLeDiff, reduceCtorEq]
  refine .inl ⟨by simp [lenAll, vcells], fun blk u2 hle2 hu2 => ?_⟩
  refine CallW.own (rest := []) (wnum (g.mono hle2) (ints_new (xs := [s.circles.length]) (by simp [maxN]) hu2) (by simp [i5]) hT hL) (List.Perm.refl _) ?_
  clear hL
  rintro v own' u3 ⟨rfl, L, rfl, hL⟩ _
  refine W_less hu hle2 ?_
  refine W_seq (seg_circles hu g hT hc oc.2 hL ?_)
  clear hL
  rintro L x hL
  refine W_seq (W_reg ?_)
  simp only [r8_12, r8_12a, r8_12b, sx, Nat.reduceBEq, Nat.reduceAdd, Nat.reduceLeDiff, reduceCtorEq]
  refine .inl ⟨by simp [lenAll, vcells], fun blk u2 hle2 hu2 => ?_⟩
  refine CallW.own (rest := []) (wnum (g.mono hle2) (ints_new (xs := [s.lots.length]) (by simp [maxN]) hu2) (by simp [i6]) hT hL) (List.Perm.refl _) ?_
  clear hL
  rintro v own' u3 ⟨rfl, L, rfl, hL⟩ _
  refine W_less hu hle2 ?_
  refine W_seq (seg_lots hu g hT hl ol.2 hL ?_)
  clear hL
  rintro L x hL
  refine W_seq (W_reg ?_)
  simp only [r8_19, r8_19a, r8_19b, sx, Nat.reduceBEq, Nat.reduceAdd, Nat.reduceLeDiff, reduceCtorEq]
  refine .inl ⟨by simp [lenAll, vcells], fun blk u2 hle2 hu2 => ?_⟩
  refine CallW.own (rest := []) (wnum (g.mono hle2) (ints_new (xs := [s.voids.length]) (by simp [maxN]) hu2) (by simp [i7]) hT hL) (List.Perm.refl _) ?_
  clear hL
  rintro v own' u3 ⟨rfl, L, rfl, hL⟩ _
  refine W_less hu hle2 ?_
  refine W_seq (seg_voids hu g hT hvo ov.2 hL ?_)
  clear hL
  rintro L x hL
  rw [List.append_nil] at hL
  subst hL
  refine W_seq (W_reg ?_)
  simp only [r8_25, r8_25a, r8_25b, sx, Nat.reduceBEq, Nat.reduceAdd, Nat.reduceLeDiff, reduceCtorEq]
  refine CallW.own (rest := []) (builderString (T := 78) _ _ _ hne) (List.Perm.refl _) ?_
  rintro v own' u3 ⟨rfl, rfl, rfl⟩ _
  exact W_ret (RetQ.outQ hu (mle_refl _) rfl trivial ⟨rfl, rfl, rfl⟩)
end Go.Proofs.YtenmmfkgopffgaaGreatDoor
