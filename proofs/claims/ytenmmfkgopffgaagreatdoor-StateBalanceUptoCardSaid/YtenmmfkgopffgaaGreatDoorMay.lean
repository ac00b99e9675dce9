/- Part 25 of the proofs that the program's StateBack and StateBalance return true (texts Xh Xi Xj joined): what its functions compute. -/
import Derived.Test.YtenmmfkgopffgaaGreatDoorMau
set_option linter.unusedVariables false
set_option linter.unusedSimpArgs false
set_option maxRecDepth 4000
set_option linter.unnecessarySimpa false
namespace Go.Proofs.YtenmmfkgopffgaaGreatDoor
open Go
def Ls {α : Type} (one : Rd → α × Rd) : Prop := ∀ r, (one r).2.rest.length ≤ r.rest.length ∧ (0 < r.rest.length → (one r).2.rest.length < r.rest.length)
def Lw {α : Type} (one : Rd → α × Rd) : Prop := ∀ r, (one r).2.rest.length ≤ r.rest.length
theorem ls_num : Ls rdNum := fun r => ⟨(num_less 59 0 r).1, (num_less 59 0 r).2.1⟩
theorem ls_int : Ls rdInt := fun r => ⟨(num_less 59 i64min r).1, (num_less 59 i64min r).2.1⟩
theorem ls_flag : Ls rdFlag := fun r => ls_num r
theorem close_le (e : UInt8) (r : Rd) : (rdClose e r).rest.length ≤ r.rest.length := by
  unfold rdClose
  split
  · simp [rdFail]
  · rename_i c t hc
    cases (c == e)
    · simp [rdFail]
    · simp [hc]
theorem lw_text : Lw rdText := by
  intro r
  have h1 := (num_less 58 0 r).1
  unfold rdText
  generalize rdNumber 58 0 r = p at *
  obtain ⟨n, r1⟩ := p
  simp only at h1 ⊢
  cases decide ((r1.rest.length : Int) < n)
  · have h2 := close_le 44 ⟨r1.rest.drop n.toNat, r1.bad⟩
    simp only [List.length_drop] at h2
    simp only [cond_false]
    omega
  · simp [rdFail]
theorem itL_le {α : Type} {one : Rd → α × Rd} (h : Lw one) : ∀ (f : Nat) (n : Int) (acc : List α) (r : Rd), (itL one f n acc r).2.rest.length ≤ r.rest.length
  | 0, n, acc, r => Nat.le_refl _
  | f + 1, n, acc, r => by
    rw [itL]
    cases decide (0 < n) && !r.bad
    · exact Nat.le_refl _
    · exact Nat.le_trans (itL_le h f _ _ _) (h r)
theorem lw_nums : Lw rdNums := by
  intro r
  have h1 := (num_less 91 0 r).1
  unfold rdNums rdItems
  generalize rdNumber 91 0 r = p at *
  obtain ⟨n, r1⟩ := p
  simp only at h1 ⊢
  exact Nat.le_trans (close_le _ _) (Nat.le_trans (itL_le (fun r => (ls_int r).1) _ _ _ _) h1)
theorem eaL_le {α : Type} {one : Rd → α × Rd} (h : Lw one) : ∀ (f : Nat) (n : Int) (acc : List α) (r : Rd), (eaL one f n acc r).2.rest.length ≤ r.rest.length
  | 0, n, acc, r => Nat.le_refl _
  | f + 1, n, acc, r => by
    rw [eaL]
    cases decide (0 < n) && decide (0 < r.rest.length)
    · exact Nat.le_refl _
    · exact Nat.le_trans (eaL_le h f _ _ _) (h r)
theorem lw_each {α : Type} {one : Rd → α × Rd} (h : Lw one) : Lw (rdEach one) := by
  intro r
  have h1 := (ls_num r).1
  unfold rdEach
  generalize rdNum r = p at *
  obtain ⟨n, r1⟩ := p
  simp only at h1 ⊢
  exact Nat.le_trans (eaL_le h _ _ _ _) h1
theorem eaL_step {α : Type} {one : Rd → α × Rd} {f : Nat} {n : Int} {acc : List α} {r : Rd} (h1 : 0 < n) (h2 : 0 < r.rest.length) (hf : 0 < f) : eaL one f n acc r = eaL one (f - 1) (n - 1) (acc ++ [(one r).1]) (one r).2 := by
  obtain ⟨k, rfl⟩ : ∃ k, f = k + 1 := ⟨f - 1, by omega⟩
  rw [eaL]
  simp only [h1, h2, decide_true, Bool.and_self, cond_true, Nat.add_sub_cancel]
theorem eaL_end {α : Type} {one : Rd → α × Rd} {f : Nat} {n : Int} {acc : List α} {r : Rd} (h : ¬ (0 < n ∧ 0 < r.rest.length)) : eaL one f n acc r = (acc, r) := by
  cases f with
  | zero => rfl
  | succ f =>
    rw [eaL]
    have : (decide (0 < n) && decide (0 < r.rest.length)) = false := by
      rw [Bool.and_eq_false_iff]
      by_cases h1 : 0 < n
      · right; exact decide_eq_false (fun q => h ⟨h1, q⟩)
      · left; exact decide_eq_false h1
    rw [this]; rfl
def Step {α : Type} (f : FuncId) (caps : List Value) (b : Nat) (one : Rd → α × Rd) (ST : List α → List HP → Mem → Prop) (u0 : Mem) : Prop :=
  ∀ acc own u r, mle u0 u → ST acc own u → acc.length < maxR → 0 < r.rest.length → r.rest.length ≤ maxR →
    Fn Tryz.prog f caps (own ++ [RdB b r]) u fun v own' u' => ∃ own2, own' = own2 ++ [RdB b (one r).2] ∧ ST (acc ++ [(one r).1]) own2 u'
theorem each_c {α : Type} {f : FuncId} {p0 p1 : Value} {b : Nat} {r : Rd} {one : Rd → α × Rd} {ST : List α → List HP → Mem → Prop} {own0 : List HP} {u : Mem} (g : GM u) (hr : r.rest.length ≤ maxR) (hls : Ls one)
    (h0 : ST [] own0 u) (hst : Step f [p0, p1] b one ST u) :
    Fn Tryz.prog 31 [.agg #[.pointer (some ⟨b, 0, none⟩)], .func (.func f) #[] #[p0, p1]] (own0 ++ [RdB b r]) u fun v own' u' => ∃ own2, own' = own2 ++ [RdB b (rdEach one r).2] ∧ ST (rdEach one r).1 own2 u' := by
  refine fn31 fun cx hu => ?_
  refine W_gh (fun w i => i.perm (L' := props [] (RdB b r :: own0)) (by simp [props])) ?_
  refine W_seq (W_reg ?_)
  simp only [r31_0, sx, Nat.reduceBEq, Nat.reduceAdd, Nat.reduceLeDiff, reduceCtorEq]
  intro b2
  refine W_seq (W_reg ?_)
  simp only [r31_1, r31_1a, r31_1b, sx, Nat.reduceBEq, Nat.reduceAdd, Nat.reduceLeDiff, reduceCtorEq]
  refine CallW.own (rest := own0) (rnum_c g hr) (List.Perm.refl _) ?_
  rintro v own' u1 ⟨rfl, rfl, rfl⟩ _
  have hl := (ls_num r).1
  have hni := rdNumber_i64 59 0 r
  have hni : i64 (rdNum r).1 := hni
  have e0 : rdEach one r = eaL one ((rdNum r).2.rest.length + 1) (rdNum r).1 [] (rdNum r).2 := rfl
  rw [e0]
  clear e0
  generalize rdNum r = p at *
  obtain ⟨n0, r1⟩ := p
  simp only at hl hni ⊢
  obtain ⟨_, hni⟩ := hni
  refine W_blk (W_loop (fun m e bx own u' => ∃ (n : Int) (rr : Rd) (acc : List α) (f' : Nat), rr.rest.length ≤ m ∧ rr.rest.length < f' ∧ acc.length + rr.rest.length ≤ r1.rest.length ∧ eaL one f' n acc rr = eaL one (r1.rest.length + 1) n0 [] r1 ∧ n ≤ n0 ∧
    St [(1, .func (.func f) #[] #[p0, p1]), (2, .pointer (some ⟨b2, 0, none⟩)), (4, ic n)] [⟨2, b2, [.pointer (some ⟨b, 0, none⟩)], 91⟩] (fun own u' => mle u1 u' ∧ ∃ ow, own = RdB b rr :: ow ∧ ST acc ow u') e bx own u') (m := r1.rest.length) ?_ ?_)
  · exact ⟨n0, r1, [], r1.rest.length + 1, Nat.le_refl _, by omega, by simp, rfl, Int.le_refl _, .mk ⟨mle_refl _, own0, rfl, h0⟩⟩
  rintro m e bx own u' ⟨n, rr, acc, f', hm, hf, hacc, heq, hn0, ⟨hle, ow, rfl, hs⟩⟩
  refine W_seq ?_
  refine W_seq (W_reg ?_)
  simp only [r31_2, r31_2a, sx, Nat.reduceBEq, Nat.reduceAdd, Nat.reduceLeDiff, reduceCtorEq]
  have out : ∀ (x : Env), ¬ (0 < n ∧ 0 < rr.rest.length) → RetQ cx [] (fun v own' u' => ∃ own2, own' = own2 ++ [RdB b (eaL one (r1.rest.length + 1) n0 [] r1).2] ∧ ST (eaL one (r1.rest.length + 1) n0 [] r1).1 own2 u') .normal x [⟨2, b2, [.pointer (some ⟨b, 0, none⟩)], 91⟩] (RdB b rr :: ow) u' := by
    intro x hq
    rw [eaL_end hq] at heq
    rw [← heq]
    exact RetQ.outG rfl trivial (fun w i => i.noB.perm (List.perm_append_comm (l₁ := [RdB b rr]) (l₂ := ow))) ⟨ow, rfl, hs⟩
  refine ⟨fun hh1 => ?_, fun hh1 => ?_⟩
  rotate_left
  · simp only [r31_2a_g, r31_2a_ga, r31_2a_gb, sx, Nat.reduceBEq, Nat.reduceAdd, Nat.reduceLeDiff, reduceCtorEq]
    simp only [r31_2b, sx, Nat.reduceBEq, Nat.reduceAdd, Nat.reduceLeDiff, reduceCtorEq]
    refine W_cnd rfl (fun hc => by cases hc) (fun hc => W_exit ?_)
    exact out _ (fun q => by have := of_decide_eq_false hh1; omega)
  have hn : 0 < n := of_decide_eq_true hh1
  simp only [r31_2a_g, r31_2a_ga, sx, Nat.reduceBEq, Nat.reduceAdd, Nat.reduceLeDiff, reduceCtorEq]
  refine CallW.own (rest := ow) (rleft_c (r := rr)) (List.Perm.refl _) ?_
  rintro v own' u2 ⟨rfl, rfl, rfl⟩ _
  simp only [r31_2a_gb, sx, Nat.reduceBEq, Nat.reduceAdd, Nat.reduceLeDiff, reduceCtorEq]
  simp only [r31_2b, sx, Nat.reduceBEq, Nat.reduceAdd, Nat.reduceLeDiff, reduceCtorEq]
  refine W_cnd rfl (fun hc => W_skip ?_) (fun hc => W_exit ?_)
  rotate_left
  · exact out _ (fun q => by have := of_decide_eq_false hc; omega)
  have hr0 : 0 < rr.rest.length := by have := of_decide_eq_true hc; omega
  rw [eaL_step hn hr0 (by omega)] at heq
  have hlt := (hls rr).2 hr0
  refine W_seq (W_blk (W_reg ?_))
  simp only [r31_4, r31_4a, sx, Nat.reduceBEq, Nat.reduceAdd, Nat.reduceLeDiff, reduceCtorEq]
  unfold maxR at hr
  refine CallW.own (rest := []) (hst acc ow u2 rr hle hs (by unfold maxR; omega) hr0 (by unfold maxR; omega)) (by simpa using List.perm_append_comm (l₁ := [RdB b rr]) (l₂ := ow)) ?_
  rintro v own' u3 ⟨own2, rfl, hs3⟩ hle3
  refine W_gh (fun w i => i.perm (L' := props _ (RdB b (one rr).2 :: own2)) (List.Perm.append_left _ (by simpa using List.perm_append_comm (l₁ := own2) (l₂ := [RdB b (one rr).2])))) ?_
  refine W_reg ?_
  simp only [r31_3, sx, Nat.reduceBEq, Nat.reduceAdd, Nat.reduceLeDiff, reduceCtorEq]
  rw [wrapI (by omega) (by omega)]
  exact ⟨_, Nat.lt_of_lt_of_le hlt hm, n - 1, (one rr).2, acc ++ [(one rr).1], f' - 1, Nat.le_refl _, by omega, by simp; omega, heq, by omega, .mk ⟨mle_trans hle hle3, own2, rfl, hs3⟩⟩
end Go.Proofs.YtenmmfkgopffgaaGreatDoor

set_option maxRecDepth 4000
set_option linter.unnecessarySimpa false
namespace Go.Proofs.YtenmmfkgopffgaaGreatDoor
open Go
def STl {α : Type} (b T : Nat) (pre post : List Value) (E k : Nat) (R : MP → List Value → α → Prop) (acc : List α) (own : List HP) (u : Mem) : Prop :=
  ∃ v css, own = [Blk b (.cells (pre ++ v :: post).toArray T (0, 0)), Row E k v acc.length css.flatten] ∧ (∀ cs ∈ css, cs.length = k) ∧ All2 (R (MU u)) css acc
theorem step77 {b0 b1 b : Nat} {u0 : Mem} {x0 x1 x2 x3 x4 x5 y7 y8 y9 y10 y11 y12 y13 y14 : Value} (g : GM u0) (hb1 : u0 b1 = some (.cells #[.pointer (some ⟨b, 0, none⟩)] 91 (0, 0))) :
    Step 77 [.pointer (some ⟨b0, 0, none⟩), .pointer (some ⟨b1, 0, none⟩)] b rdPaid (STl b0 50 [x0, x1, x2, x3, x4, x5] [y7, y8, y9, y10, y11, y12, y13, y14] 113 5 (fun _ cs x => cs = paidC x)) u0 := by
  rintro acc own u r hle ⟨v, css, rfl, hk, hall⟩ hacc hr0 hr
  have g := g.mono hle
  have hb1 := hle _ _ hb1
  unfold maxR at hacc
  refine fn77 fun cx hu => ?_
  refine W_gh (bx' := [⟨0, b0, [x0, x1, x2, x3, x4, x5, v, y7, y8, y9, y10, y11, y12, y13, y14], 50⟩]) (own' := [Row 113 5 v acc.length css.flatten, RdB b r]) (fun w i => i) ?_
  refine W_drw (drawOK mixedP) ?_
  simp only [WSD, A.wpD, r77_0, r77_0a, r77_0b, r77_0c, r77_0d, r77_0e, r77_0f, r77_0g, r77_0h, r77_0i, r77_0j, r77_0k, r77_0l, r77_0m, r77_0n, r77_0o, r77_0p, r77_0q, r77_0r, r77_0s, rdPaid, sx, Nat.reduceBEq, Nat.reduceAdd, Nat.reduceLeDiff, reduceCtorEq]
  refine ⟨[.pointer (some ⟨b, 0, none⟩)], .inl ⟨_, _, _, hb1, rfl⟩, rfl, ?_⟩
  refine ⟨[.pointer (some ⟨b, 0, none⟩)], .inl ⟨_, _, _, hb1, rfl⟩, rfl, ?_⟩
  refine ⟨[.pointer (some ⟨b, 0, none⟩)], .inl ⟨_, _, _, hb1, rfl⟩, rfl, ?_⟩
  refine ⟨[.pointer (some ⟨b, 0, none⟩)], .inl ⟨_, _, _, hb1, rfl⟩, rfl, ?_⟩
  refine ⟨[.pointer (some ⟨b, 0, none⟩)], .inl ⟨_, _, _, hb1, rfl⟩, rfl, ?_⟩
  simp only [WSD, A.wpD, sx, Nat.reduceBEq, Nat.reduceAdd, Nat.reduceLeDiff, reduceCtorEq]
  refine CallWD.own (rest := [Row 113 5 v acc.length css.flatten]) (rnum_c g hr) (List.Perm.swap _ _ _) ?_
  rintro v1 own' u1 ⟨rfl, rfl, rfl⟩ _
  have hr1 := Nat.le_trans ((ls_num r).1) hr
  have hi1 := rdNumber_i64 59 0 r
  have hi1 : i64 (rdNum r).1 := hi1
  generalize rdNum r = p1 at hr1 hi1 ⊢
  refine CallWD.own (rest := [Row 113 5 v acc.length css.flatten]) (rnum_c g hr1) (List.Perm.refl _) ?_
  rintro v2 own' u2 ⟨rfl, rfl, rfl⟩ _
  have hr2 := Nat.le_trans ((ls_num p1.2).1) hr1
  have hi2 := rdNumber_i64 59 0 p1.2
  have hi2 : i64 (rdNum p1.2).1 := hi2
  generalize rdNum p1.2 = p2 at hr2 hi2 ⊢
  refine CallWD.own (rest := [Row 113 5 v acc.length css.flatten]) (rnum_c g hr2) (List.Perm.refl _) ?_
  rintro v3 own' u3 ⟨rfl, rfl, rfl⟩ _
  have hr3 := Nat.le_trans ((ls_num p2.2).1) hr2
  have hi3 := rdNumber_i64 59 0 p2.2
  have hi3 : i64 (rdNum p2.2).1 := hi3
  generalize rdNum p2.2 = p3 at hr3 hi3 ⊢
  refine CallWD.own (rest := [Row 113 5 v acc.length css.flatten]) (rnum_c g hr3) (List.Perm.refl _) ?_
  rintro v4 own' u4 ⟨rfl, rfl, rfl⟩ _
  have hr4 := Nat.le_trans ((ls_num p3.2).1) hr3
  have hi4 := rdNumber_i64 59 0 p3.2
  have hi4 : i64 (rdNum p3.2).1 := hi4
  generalize rdNum p3.2 = p4 at hr4 hi4 ⊢
  refine CallWD.own (rest := [Row 113 5 v acc.length css.flatten]) (rnum_c g hr4) (List.Perm.refl _) ?_
  rintro v5 own' u5 ⟨rfl, rfl, rfl⟩ _
  have hr5 := Nat.le_trans ((ls_num p4.2).1) hr4
  have hi5 := rdNumber_i64 59 0 p4.2
  have hi5 : i64 (rdNum p4.2).1 := hi5
  generalize rdNum p4.2 = p5 at hr5 hi5 ⊢
  simp only [WSD, A.wpD, mksV, sx, Nat.reduceBEq, Nat.reduceAdd, Nat.reduceLeDiff, reduceCtorEq]
  refine .inl ⟨by simp [lenAll, vcells], fun blk u9 hle9 hu9 => ?_⟩
  refine ⟨acc.length, css.flatten, [RdB b p5.2], paidC ⟨p1.1, p2.1, p3.1, p4.1, p5.1⟩, List.Perm.swap _ _ _, by simp [paidC], fun _ => ⟨blk, 0, rfl, _, _, _, hu9, by simp [flatC, vcells, paidC]⟩, by simp [all1, paidC, Value.oneCell'], by omega, by omega, ?_⟩
  rintro v' ⟨a', c', rfl⟩
  simp only [WSD, A.wpD, sx, Nat.reduceBEq, Nat.reduceAdd, Nat.reduceLeDiff, reduceCtorEq]
  refine RetQ.outG (own' := [Blk b0 (.cells #[x0, x1, x2, x3, x4, x5, .slice a' (acc.length + 1) c', y7, y8, y9, y10, y11, y12, y13, y14] 50 (0, 0)), Row 113 5 (.slice a' (acc.length + 1) c') (acc.length + 1) (css.flatten ++ paidC ⟨p1.1, p2.1, p3.1, p4.1, p5.1⟩), RdB b p5.2]) rfl trivial (fun w i => i) ⟨[_, _], rfl, .slice a' (acc.length + 1) c', css ++ [paidC ⟨p1.1, p2.1, p3.1, p4.1, p5.1⟩], ?_, ?_, ?_⟩
  · simp
  · intro cs hcs
    rcases List.mem_append.1 hcs with h | h
    · exact hk cs h
    · simp only [List.mem_singleton] at h
      subst h
      rfl
  · exact hall.app rfl
theorem step78 {b0 b1 b : Nat} {u0 : Mem} {x0 x1 x2 x3 x4 x5 x6 y8 y9 y10 y11 y12 y13 y14 : Value} (g : GM u0) (hb1 : u0 b1 = some (.cells #[.pointer (some ⟨b, 0, none⟩)] 91 (0, 0))) :
    Step 78 [.pointer (some ⟨b0, 0, none⟩), .pointer (some ⟨b1, 0, none⟩)] b rdBid (STl b0 50 [x0, x1, x2, x3, x4, x5, x6] [y8, y9, y10, y11, y12, y13, y14] 115 4 (fun _ cs x => cs = bidC x)) u0 := by
  rintro acc own u r hle ⟨v, css, rfl, hk, hall⟩ hacc hr0 hr
  have g := g.mono hle
  have hb1 := hle _ _ hb1
  unfold maxR at hacc
  refine fn78 fun cx hu => ?_
  refine W_gh (bx' := [⟨0, b0, [x0, x1, x2, x3, x4, x5, x6, v, y8, y9, y10, y11, y12, y13, y14], 50⟩]) (own' := [Row 115 4 v acc.length css.flatten, RdB b r]) (fun w i => i) ?_
  refine W_drw (drawOK mixedP) ?_
  simp only [WSD, A.wpD, r78_0, r78_0a, r78_0b, r78_0c, r78_0d, r78_0e, r78_0f, r78_0g, r78_0h, r78_0i, r78_0j, r78_0k, r78_0l, r78_0m, r78_0n, r78_0o, r78_0p, rdBid, rdFlag, sx, Nat.reduceBEq, Nat.reduceAdd, Nat.reduceLeDiff, reduceCtorEq]
  refine ⟨[.pointer (some ⟨b, 0, none⟩)], .inl ⟨_, _, _, hb1, rfl⟩, rfl, ?_⟩
  refine ⟨[.pointer (some ⟨b, 0, none⟩)], .inl ⟨_, _, _, hb1, rfl⟩, rfl, ?_⟩
  refine ⟨[.pointer (some ⟨b, 0, none⟩)], .inl ⟨_, _, _, hb1, rfl⟩, rfl, ?_⟩
  refine ⟨[.pointer (some ⟨b, 0, none⟩)], .inl ⟨_, _, _, hb1, rfl⟩, rfl, ?_⟩
  simp only [WSD, A.wpD, sx, Nat.reduceBEq, Nat.reduceAdd, Nat.reduceLeDiff, reduceCtorEq]
  refine CallWD.own (rest := [Row 115 4 v acc.length css.flatten]) (rnum_c g hr) (List.Perm.swap _ _ _) ?_
  rintro v1 own' u1 ⟨rfl, rfl, rfl⟩ _
  have hr1 := Nat.le_trans ((ls_num r).1) hr
  have hi1 := rdNumber_i64 59 0 r
  have hi1 : i64 (rdNum r).1 := hi1
  generalize rdNum r = p1 at hr1 hi1 ⊢
  refine CallWD.own (rest := [Row 115 4 v acc.length css.flatten]) (rnum_c g hr1) (List.Perm.refl _) ?_
  rintro v2 own' u2 ⟨rfl, rfl, rfl⟩ _
  have hr2 := Nat.le_trans ((ls_num p1.2).1) hr1
  have hi2 := rdNumber_i64 59 0 p1.2
  have hi2 : i64 (rdNum p1.2).1 := hi2
  generalize rdNum p1.2 = p2 at hr2 hi2 ⊢
  refine CallWD.own (rest := [Row 115 4 v acc.length css.flatten]) (rint_c g hr2) (List.Perm.refl _) ?_
  rintro v3 own' u3 ⟨rfl, rfl, rfl⟩ _
  have hr3 := Nat.le_trans ((ls_int p2.2).1) hr2
  have hi3 := rdNumber_i64 59 i64min p2.2
  have hi3 : i64 (rdInt p2.2).1 := hi3
  generalize rdInt p2.2 = p3 at hr3 hi3 ⊢
  refine CallWD.own (rest := [Row 115 4 v acc.length css.flatten]) (rnum_c g hr3) (List.Perm.refl _) ?_
  rintro v4 own' u4 ⟨rfl, rfl, rfl⟩ _
  have hr4 := Nat.le_trans ((ls_num p3.2).1) hr3
  have hi4 := rdNumber_i64 59 0 p3.2
  have hi4 : i64 (rdNum p3.2).1 := hi4
  generalize rdNum p3.2 = p4 at hr4 hi4 ⊢
  simp only [WSD, A.wpD, mksV, sx, Nat.reduceBEq, Nat.reduceAdd, Nat.reduceLeDiff, reduceCtorEq]
  refine .inl ⟨by simp [lenAll, vcells], fun blk u9 hle9 hu9 => ?_⟩
  refine ⟨acc.length, css.flatten, [RdB b p4.2], bidC ⟨p1.1, p2.1, p3.1, p4.1 == 1⟩, List.Perm.swap _ _ _, by simp [bidC], fun _ => ⟨blk, 0, rfl, _, _, _, hu9, by simp [flatC, vcells, bidC]⟩, by simp [all1, bidC, Value.oneCell'], by omega, by omega, ?_⟩
  rintro v' ⟨a', c', rfl⟩
  simp only [WSD, A.wpD, sx, Nat.reduceBEq, Nat.reduceAdd, Nat.reduceLeDiff, reduceCtorEq]
  refine RetQ.outG (own' := [Blk b0 (.cells #[x0, x1, x2, x3, x4, x5, x6, .slice a' (acc.length + 1) c', y8, y9, y10, y11, y12, y13, y14] 50 (0, 0)), Row 115 4 (.slice a' (acc.length + 1) c') (acc.length + 1) (css.flatten ++ bidC ⟨p1.1, p2.1, p3.1, p4.1 == 1⟩), RdB b p4.2]) rfl trivial (fun w i => i) ⟨[_, _], rfl, .slice a' (acc.length + 1) c', css ++ [bidC ⟨p1.1, p2.1, p3.1, p4.1 == 1⟩], ?_, ?_, ?_⟩
  · simp
  · intro cs hcs
    rcases List.mem_append.1 hcs with h | h
    · exact hk cs h
    · simp only [List.mem_singleton] at h
      subst h
      rfl
  · exact hall.app rfl
theorem step79 {b0 b1 b : Nat} {u0 : Mem} {x0 x1 x2 x3 x4 x5 x6 x7 y9 y10 y11 y12 y13 y14 : Value} (g : GM u0) (hb1 : u0 b1 = some (.cells #[.pointer (some ⟨b, 0, none⟩)] 91 (0, 0))) :
    Step 79 [.pointer (some ⟨b0, 0, none⟩), .pointer (some ⟨b1, 0, none⟩)] b rdInt (STl b0 50 [x0, x1, x2, x3, x4, x5, x6, x7] [y9, y10, y11, y12, y13, y14] 3 1 (fun _ cs x => cs = i1 x)) u0 := by
  rintro acc own u r hle ⟨v, css, rfl, hk, hall⟩ hacc hr0 hr
  have g := g.mono hle
  have hb1 := hle _ _ hb1
  unfold maxR at hacc
  refine fn79 fun cx hu => ?_
  refine W_gh (bx' := [⟨0, b0, [x0, x1, x2, x3, x4, x5, x6, x7, v, y9, y10, y11, y12, y13, y14], 50⟩]) (own' := [Row 3 1 v acc.length css.flatten, RdB b r]) (fun w i => i) ?_
  refine W_drw (drawOK mixedP) ?_
  simp only [WSD, A.wpD, r79_0, r79_0a, r79_0b, r79_0c, r79_0d, r79_0e, r79_0f, sx, Nat.reduceBEq, Nat.reduceAdd, Nat.reduceLeDiff, reduceCtorEq]
  refine ⟨[.pointer (some ⟨b, 0, none⟩)], .inl ⟨_, _, _, hb1, rfl⟩, rfl, ?_⟩
  simp only [WSD, A.wpD, sx, Nat.reduceBEq, Nat.reduceAdd, Nat.reduceLeDiff, reduceCtorEq]
  refine CallWD.own (rest := [Row 3 1 v acc.length css.flatten]) (rint_c g hr) (List.Perm.swap _ _ _) ?_
  rintro v1 own' u1 ⟨rfl, rfl, rfl⟩ _
  have hr1 := Nat.le_trans ((ls_int r).1) hr
  have hi1 := rdNumber_i64 59 i64min r
  have hi1 : i64 (rdInt r).1 := hi1
  generalize rdInt r = p1 at hr1 hi1 ⊢
  simp only [WSD, A.wpD, mksV, sx, Nat.reduceBEq, Nat.reduceAdd, Nat.reduceLeDiff, reduceCtorEq]
  refine .inl ⟨by simp [lenAll, vcells], fun blk u9 hle9 hu9 => ?_⟩
  refine ⟨acc.length, css.flatten, [RdB b p1.2], i1 p1.1, List.Perm.swap _ _ _, by simp [i1], fun _ => ⟨blk, 0, rfl, _, _, _, hu9, by simp [flatC, vcells, i1]⟩, by simp [all1, i1, Value.oneCell'], by omega, by omega, ?_⟩
  rintro v' ⟨a', c', rfl⟩
  simp only [WSD, A.wpD, sx, Nat.reduceBEq, Nat.reduceAdd, Nat.reduceLeDiff, reduceCtorEq]
  refine RetQ.outG (own' := [Blk b0 (.cells #[x0, x1, x2, x3, x4, x5, x6, x7, .slice a' (acc.length + 1) c', y9, y10, y11, y12, y13, y14] 50 (0, 0)), Row 3 1 (.slice a' (acc.length + 1) c') (acc.length + 1) (css.flatten ++ i1 p1.1), RdB b p1.2]) rfl trivial (fun w i => i) ⟨[_, _], rfl, .slice a' (acc.length + 1) c', css ++ [i1 p1.1], ?_, ?_, ?_⟩
  · simp
  · intro cs hcs
    rcases List.mem_append.1 hcs with h | h
    · exact hk cs h
    · simp only [List.mem_singleton] at h
      subst h
      rfl
  · exact hall.app rfl
theorem step116 {b0 b1 b : Nat} {u0 : Mem} {x0 x1 x2 y4 : Value} (g : GM u0) (hb1 : u0 b1 = some (.cells #[.pointer (some ⟨b, 0, none⟩)] 91 (0, 0))) :
    Step 116 [.pointer (some ⟨b0, 0, none⟩), .pointer (some ⟨b1, 0, none⟩)] b rdVoice (STl b0 63 [x0, x1, x2] [y4] 60 4 (fun _ cs x => cs = voiceC x)) u0 := by
  rintro acc own u r hle ⟨v, css, rfl, hk, hall⟩ hacc hr0 hr
  have g := g.mono hle
  have hb1 := hle _ _ hb1
  unfold maxR at hacc
  refine fn116 fun cx hu => ?_
  refine W_gh (bx' := [⟨0, b0, [x0, x1, x2, v, y4], 63⟩]) (own' := [Row 60 4 v acc.length css.flatten, RdB b r]) (fun w i => i) ?_
  refine W_drw (drawOK mixedP) ?_
  simp only [WSD, A.wpD, r116_0, r116_0a, r116_0b, r116_0c, r116_0d, r116_0e, r116_0f, r116_0g, r116_0h, r116_0i, r116_0j, r116_0k, r116_0l, r116_0m, r116_0n, r116_0o, r116_0p, r116_0q, rdFlag, rdVoice, sx, Nat.reduceBEq, Nat.reduceAdd, Nat.reduceLeDiff, reduceCtorEq]
  refine ⟨[.pointer (some ⟨b, 0, none⟩)], .inl ⟨_, _, _, hb1, rfl⟩, rfl, ?_⟩
  refine ⟨[.pointer (some ⟨b, 0, none⟩)], .inl ⟨_, _, _, hb1, rfl⟩, rfl, ?_⟩
  refine ⟨[.pointer (some ⟨b, 0, none⟩)], .inl ⟨_, _, _, hb1, rfl⟩, rfl, ?_⟩
  refine ⟨[.pointer (some ⟨b, 0, none⟩)], .inl ⟨_, _, _, hb1, rfl⟩, rfl, ?_⟩
  simp only [WSD, A.wpD, sx, Nat.reduceBEq, Nat.reduceAdd, Nat.reduceLeDiff, reduceCtorEq]
  refine CallWD.own (rest := [Row 60 4 v acc.length css.flatten]) (rnum_c g hr) (List.Perm.swap _ _ _) ?_
  rintro v1 own' u1 ⟨rfl, rfl, rfl⟩ _
  have hr1 := Nat.le_trans ((ls_num r).1) hr
  have hi1 := rdNumber_i64 59 0 r
  have hi1 : i64 (rdNum r).1 := hi1
  generalize rdNum r = p1 at hr1 hi1 ⊢
  refine CallWD.own (rest := [Row 60 4 v acc.length css.flatten]) (rnum_c g hr1) (List.Perm.refl _) ?_
  rintro v2 own' u2 ⟨rfl, rfl, rfl⟩ _
  have hr2 := Nat.le_trans ((ls_num p1.2).1) hr1
  have hi2 := rdNumber_i64 59 0 p1.2
  have hi2 : i64 (rdNum p1.2).1 := hi2
  generalize rdNum p1.2 = p2 at hr2 hi2 ⊢
  refine CallWD.own (rest := [Row 60 4 v acc.length css.flatten]) (rnum_c g hr2) (List.Perm.refl _) ?_
  rintro v3 own' u3 ⟨rfl, rfl, rfl⟩ _
  have hr3 := Nat.le_trans ((ls_num p2.2).1) hr2
  have hi3 := rdNumber_i64 59 0 p2.2
  have hi3 : i64 (rdNum p2.2).1 := hi3
  generalize rdNum p2.2 = p3 at hr3 hi3 ⊢
  simp only [WSD, A.wpD, mksV, sx, Nat.reduceBEq, Nat.reduceAdd, Nat.reduceLeDiff, reduceCtorEq]
  refine CallWD.own (rest := [Row 60 4 v acc.length css.flatten]) (rnum_c g hr3) (List.Perm.refl _) ?_
  rintro v4 own' u4 ⟨rfl, rfl, rfl⟩ _
  have hr4 := Nat.le_trans ((ls_num p3.2).1) hr3
  have hi4 := rdNumber_i64 59 0 p3.2
  have hi4 : i64 (rdNum p3.2).1 := hi4
  generalize rdNum p3.2 = p4 at hr4 hi4 ⊢
  simp only [WSD, A.wpD, mksV, sx, Nat.reduceBEq, Nat.reduceAdd, Nat.reduceLeDiff, reduceCtorEq]
  refine .inl ⟨by simp [lenAll, vcells], fun blk u9 hle9 hu9 => ?_⟩
  refine ⟨acc.length, css.flatten, [RdB b p4.2], voiceC ⟨p1.1, p2.1, p3.1 == 1, p4.1⟩, List.Perm.swap _ _ _, by simp [voiceC], fun _ => ⟨blk, 0, rfl, _, _, _, hu9, by simp [flatC, vcells, voiceC]⟩, by simp [all1, voiceC, Value.oneCell'], by omega, by omega, ?_⟩
  rintro v' ⟨a', c', rfl⟩
  simp only [WSD, A.wpD, sx, Nat.reduceBEq, Nat.reduceAdd, Nat.reduceLeDiff, reduceCtorEq]
  refine RetQ.outG (own' := [Blk b0 (.cells #[x0, x1, x2, .slice a' (acc.length + 1) c', y4] 63 (0, 0)), Row 60 4 (.slice a' (acc.length + 1) c') (acc.length + 1) (css.flatten ++ voiceC ⟨p1.1, p2.1, p3.1 == 1, p4.1⟩), RdB b p4.2]) rfl trivial (fun w i => i) ⟨[_, _], rfl, .slice a' (acc.length + 1) c', css ++ [voiceC ⟨p1.1, p2.1, p3.1 == 1, p4.1⟩], ?_, ?_, ?_⟩
  · simp
  · intro cs hcs
    rcases List.mem_append.1 hcs with h | h
    · exact hk cs h
    · simp only [List.mem_singleton] at h
      subst h
      rfl
  · exact hall.app rfl
theorem step34 {b0 b1 b : Nat} {u0 : Mem} {x0 x1 x2 y4 : Value} (g : GM u0) (hb1 : u0 b1 = some (.cells #[.pointer (some ⟨b, 0, none⟩)] 91 (0, 0))) :
    Step 34 [.pointer (some ⟨b0, 0, none⟩), .pointer (some ⟨b1, 0, none⟩)] b rdLot (STl b0 27 [x0, x1, x2] [y4] 40 7 (fun _ cs x => cs = lotC x)) u0 := by
  rintro acc own u r hle ⟨v, css, rfl, hk, hall⟩ hacc hr0 hr
  have g := g.mono hle
  have hb1 := hle _ _ hb1
  unfold maxR at hacc
  refine fn34 fun cx hu => ?_
  refine W_gh (bx' := [⟨0, b0, [x0, x1, x2, v, y4], 27⟩]) (own' := [Row 40 7 v acc.length css.flatten, RdB b r]) (fun w i => i) ?_
  refine W_drw (drawOK mixedP) ?_
  simp only [WSD, A.wpD, r34_0, r34_0a, r34_0b, r34_0c, r34_0d, r34_0e, r34_0f, r34_0g, r34_0h, r34_0i, r34_0j, r34_0k, r34_0l, r34_0m, r34_0n, r34_0o, r34_0p, r34_0q, r34_0r, r34_0s, r34_0t, r34_0u, r34_0v, r34_0w, r34_0x, r34_0y, r34_0z, rdLot, sx, Nat.reduceBEq, Nat.reduceAdd, Nat.reduceLeDiff, reduceCtorEq]
  refine ⟨[.pointer (some ⟨b, 0, none⟩)], .inl ⟨_, _, _, hb1, rfl⟩, rfl, ?_⟩
  refine ⟨[.pointer (some ⟨b, 0, none⟩)], .inl ⟨_, _, _, hb1, rfl⟩, rfl, ?_⟩
  refine ⟨[.pointer (some ⟨b, 0, none⟩)], .inl ⟨_, _, _, hb1, rfl⟩, rfl, ?_⟩
  refine ⟨[.pointer (some ⟨b, 0, none⟩)], .inl ⟨_, _, _, hb1, rfl⟩, rfl, ?_⟩
  refine ⟨[.pointer (some ⟨b, 0, none⟩)], .inl ⟨_, _, _, hb1, rfl⟩, rfl, ?_⟩
  refine ⟨[.pointer (some ⟨b, 0, none⟩)], .inl ⟨_, _, _, hb1, rfl⟩, rfl, ?_⟩
  refine ⟨[.pointer (some ⟨b, 0, none⟩)], .inl ⟨_, _, _, hb1, rfl⟩, rfl, ?_⟩
  simp only [WSD, A.wpD, sx, Nat.reduceBEq, Nat.reduceAdd, Nat.reduceLeDiff, reduceCtorEq]
  refine CallWD.own (rest := [Row 40 7 v acc.length css.flatten]) (rnum_c g hr) (List.Perm.swap _ _ _) ?_
  rintro v1 own' u1 ⟨rfl, rfl, rfl⟩ _
  have hr1 := Nat.le_trans ((ls_num r).1) hr
  have hi1 := rdNumber_i64 59 0 r
  have hi1 : i64 (rdNum r).1 := hi1
  generalize rdNum r = p1 at hr1 hi1 ⊢
  refine CallWD.own (rest := [Row 40 7 v acc.length css.flatten]) (rnum_c g hr1) (List.Perm.refl _) ?_
  rintro v2 own' u2 ⟨rfl, rfl, rfl⟩ _
  have hr2 := Nat.le_trans ((ls_num p1.2).1) hr1
  have hi2 := rdNumber_i64 59 0 p1.2
  have hi2 : i64 (rdNum p1.2).1 := hi2
  generalize rdNum p1.2 = p2 at hr2 hi2 ⊢
  refine CallWD.own (rest := [Row 40 7 v acc.length css.flatten]) (rnum_c g hr2) (List.Perm.refl _) ?_
  rintro v3 own' u3 ⟨rfl, rfl, rfl⟩ _
  have hr3 := Nat.le_trans ((ls_num p2.2).1) hr2
  have hi3 := rdNumber_i64 59 0 p2.2
  have hi3 : i64 (rdNum p2.2).1 := hi3
  generalize rdNum p2.2 = p3 at hr3 hi3 ⊢
  simp only [WSD, A.wpD, mksV, sx, Nat.reduceBEq, Nat.reduceAdd, Nat.reduceLeDiff, reduceCtorEq]
  refine CallWD.own (rest := [Row 40 7 v acc.length css.flatten]) (rnum_c g hr3) (List.Perm.refl _) ?_
  rintro v4 own' u4 ⟨rfl, rfl, rfl⟩ _
  have hr4 := Nat.le_trans ((ls_num p3.2).1) hr3
  have hi4 := rdNumber_i64 59 0 p3.2
  have hi4 : i64 (rdNum p3.2).1 := hi4
  generalize rdNum p3.2 = p4 at hr4 hi4 ⊢
  refine CallWD.own (rest := [Row 40 7 v acc.length css.flatten]) (rnum_c g hr4) (List.Perm.refl _) ?_
  rintro v5 own' u5 ⟨rfl, rfl, rfl⟩ _
  have hr5 := Nat.le_trans ((ls_num p4.2).1) hr4
  have hi5 := rdNumber_i64 59 0 p4.2
  have hi5 : i64 (rdNum p4.2).1 := hi5
  generalize rdNum p4.2 = p5 at hr5 hi5 ⊢
  refine CallWD.own (rest := [Row 40 7 v acc.length css.flatten]) (rnum_c g hr5) (List.Perm.refl _) ?_
  rintro v6 own' u6 ⟨rfl, rfl, rfl⟩ _
  have hr6 := Nat.le_trans ((ls_num p5.2).1) hr5
  have hi6 := rdNumber_i64 59 0 p5.2
  have hi6 : i64 (rdNum p5.2).1 := hi6
  generalize rdNum p5.2 = p6 at hr6 hi6 ⊢
  refine CallWD.own (rest := [Row 40 7 v acc.length css.flatten]) (rint_c g hr6) (List.Perm.refl _) ?_
  rintro v7 own' u7 ⟨rfl, rfl, rfl⟩ _
  have hr7 := Nat.le_trans ((ls_int p6.2).1) hr6
  have hi7 := rdNumber_i64 59 i64min p6.2
  have hi7 : i64 (rdInt p6.2).1 := hi7
  generalize rdInt p6.2 = p7 at hr7 hi7 ⊢
  simp only [WSD, A.wpD, mksV, sx, Nat.reduceBEq, Nat.reduceAdd, Nat.reduceLeDiff, reduceCtorEq]
  refine .inl ⟨by simp [lenAll, vcells], fun blk u9 hle9 hu9 => ?_⟩
  refine ⟨acc.length, css.flatten, [RdB b p7.2], lotC ⟨p1.1, p2.1, p3.1, p4.1, p5.1, p6.1, p7.1⟩, List.Perm.swap _ _ _, by simp [lotC], fun _ => ⟨blk, 0, rfl, _, _, _, hu9, by simp [flatC, vcells, lotC]⟩, by simp [all1, lotC, Value.oneCell'], by omega, by omega, ?_⟩
  rintro v' ⟨a', c', rfl⟩
  simp only [WSD, A.wpD, sx, Nat.reduceBEq, Nat.reduceAdd, Nat.reduceLeDiff, reduceCtorEq]
  refine RetQ.outG (own' := [Blk b0 (.cells #[x0, x1, x2, .slice a' (acc.length + 1) c', y4] 27 (0, 0)), Row 40 7 (.slice a' (acc.length + 1) c') (acc.length + 1) (css.flatten ++ lotC ⟨p1.1, p2.1, p3.1, p4.1, p5.1, p6.1, p7.1⟩), RdB b p7.2]) rfl trivial (fun w i => i) ⟨[_, _], rfl, .slice a' (acc.length + 1) c', css ++ [lotC ⟨p1.1, p2.1, p3.1, p4.1, p5.1, p6.1, p7.1⟩], ?_, ?_, ?_⟩
  · simp
  · intro cs hcs
    rcases List.mem_append.1 hcs with h | h
    · exact hk cs h
    · simp only [List.mem_singleton] at h
      subst h
      rfl
  · exact hall.app rfl
theorem step36 {b0 b1 b : Nat} {u0 : Mem} {x0 x1 x2 x3 : Value} (g : GM u0) (hb1 : u0 b1 = some (.cells #[.pointer (some ⟨b, 0, none⟩)] 91 (0, 0))) :
    Step 36 [.pointer (some ⟨b0, 0, none⟩), .pointer (some ⟨b1, 0, none⟩)] b rdVoid (STl b0 27 [x0, x1, x2, x3] [] 42 2 (fun _ cs x => cs = voidC x)) u0 := by
  rintro acc own u r hle ⟨v, css, rfl, hk, hall⟩ hacc hr0 hr
  have g := g.mono hle
  have hb1 := hle _ _ hb1
  unfold maxR at hacc
  refine fn36 fun cx hu => ?_
  refine W_gh (bx' := [⟨0, b0, [x0, x1, x2, x3, v], 27⟩]) (own' := [Row 42 2 v acc.length css.flatten, RdB b r]) (fun w i => i) ?_
  refine W_drw (drawOK mixedP) ?_
  simp only [WSD, A.wpD, r36_0, r36_0a, r36_0b, r36_0c, r36_0d, r36_0e, r36_0f, r36_0g, r36_0h, r36_0i, r36_0j, rdVoid, sx, Nat.reduceBEq, Nat.reduceAdd, Nat.reduceLeDiff, reduceCtorEq]
  refine ⟨[.pointer (some ⟨b, 0, none⟩)], .inl ⟨_, _, _, hb1, rfl⟩, rfl, ?_⟩
  refine ⟨[.pointer (some ⟨b, 0, none⟩)], .inl ⟨_, _, _, hb1, rfl⟩, rfl, ?_⟩
  simp only [WSD, A.wpD, sx, Nat.reduceBEq, Nat.reduceAdd, Nat.reduceLeDiff, reduceCtorEq]
  refine CallWD.own (rest := [Row 42 2 v acc.length css.flatten]) (rnum_c g hr) (List.Perm.swap _ _ _) ?_
  rintro v1 own' u1 ⟨rfl, rfl, rfl⟩ _
  have hr1 := Nat.le_trans ((ls_num r).1) hr
  have hi1 := rdNumber_i64 59 0 r
  have hi1 : i64 (rdNum r).1 := hi1
  generalize rdNum r = p1 at hr1 hi1 ⊢
  refine CallWD.own (rest := [Row 42 2 v acc.length css.flatten]) (rnum_c g hr1) (List.Perm.refl _) ?_
  rintro v2 own' u2 ⟨rfl, rfl, rfl⟩ _
  have hr2 := Nat.le_trans ((ls_num p1.2).1) hr1
  have hi2 := rdNumber_i64 59 0 p1.2
  have hi2 : i64 (rdNum p1.2).1 := hi2
  generalize rdNum p1.2 = p2 at hr2 hi2 ⊢
  simp only [WSD, A.wpD, mksV, sx, Nat.reduceBEq, Nat.reduceAdd, Nat.reduceLeDiff, reduceCtorEq]
  refine .inl ⟨by simp [lenAll, vcells], fun blk u9 hle9 hu9 => ?_⟩
  refine ⟨acc.length, css.flatten, [RdB b p2.2], voidC ⟨p1.1, p2.1⟩, List.Perm.swap _ _ _, by simp [voidC], fun _ => ⟨blk, 0, rfl, _, _, _, hu9, by simp [flatC, vcells, voidC]⟩, by simp [all1, voidC, Value.oneCell'], by omega, by omega, ?_⟩
  rintro v' ⟨a', c', rfl⟩
  simp only [WSD, A.wpD, sx, Nat.reduceBEq, Nat.reduceAdd, Nat.reduceLeDiff, reduceCtorEq]
  refine RetQ.outG (own' := [Blk b0 (.cells #[x0, x1, x2, x3, .slice a' (acc.length + 1) c'] 27 (0, 0)), Row 42 2 (.slice a' (acc.length + 1) c') (acc.length + 1) (css.flatten ++ voidC ⟨p1.1, p2.1⟩), RdB b p2.2]) rfl trivial (fun w i => i) ⟨[_, _], rfl, .slice a' (acc.length + 1) c', css ++ [voidC ⟨p1.1, p2.1⟩], ?_, ?_, ?_⟩
  · simp
  · intro cs hcs
    rcases List.mem_append.1 hcs with h | h
    · exact hk cs h
    · simp only [List.mem_singleton] at h
      subst h
      rfl
  · exact hall.app rfl
theorem rmember_c {b : Nat} {r : Rd} {u : Mem} (g : GM u) (hr : r.rest.length ≤ maxR) : Fn Tryz.prog 76 [.agg #[.pointer (some ⟨b, 0, none⟩)]] [RdB b r] u fun v own' u' => ∃ cs, v = .agg cs.toArray ∧ own' = [RdB b (rdMember r).2] ∧ memberR (MU u') cs (rdMember r).1 := by
  refine fn76 fun cx hu => ?_
  refine W_seq (W_reg ?_)
  simp only [r76_0, r76_0a, sx, Nat.reduceBEq, Nat.reduceAdd, Nat.reduceLeDiff, reduceCtorEq]
  intro b1 b2
  refine W_seq (W_drw (drawOK mixedP) ?_)
  simp only [WSD, A.wpD, r76_1, r76_1a, r76_1b, r76_1c, r76_1d, r76_1e, r76_1f, r76_1g, rdMember, sx, Nat.reduceBEq, Nat.reduceAdd, Nat.reduceLeDiff, reduceCtorEq]
  refine CallWD.own (rest := []) (rnum_c g hr) (List.Perm.refl _) ?_
  rintro v1 own' u1 ⟨rfl, rfl, rfl⟩ _
  have hr1 := Nat.le_trans ((ls_num r).1) hr
  have hi1 := rdNumber_i64 59 0 r
  have hi1 : i64 (rdNum r).1 := hi1
  generalize rdNum r = p1 at hr1 hi1 ⊢
  refine CallWD.own (rest := []) (rnum_c g hr1) (List.Perm.refl _) ?_
  rintro v2 own' u2 ⟨rfl, rfl, rfl⟩ _
  have hr2 := Nat.le_trans ((ls_num p1.2).1) hr1
  have hi2 := rdNumber_i64 59 0 p1.2
  have hi2 : i64 (rdNum p1.2).1 := hi2
  generalize rdNum p1.2 = p2 at hr2 hi2 ⊢
  refine CallWD.own (rest := []) (rnums g hr2) (List.Perm.refl _) ?_
  rintro v3 own' u3 ⟨rfl, hv3⟩ hle3
  have g := g.mono hle3
  obtain ⟨a3, c3, rfl, hm3⟩ := hv3.formL
  have hr3 := Nat.le_trans (lw_nums p2.2) hr2
  generalize rdNums p2.2 = p3 at hr3 hv3 hm3 ⊢
  refine CallWD.own (rest := []) (rnum_c g hr3) (List.Perm.refl _) ?_
  rintro v4 own' u4 ⟨rfl, rfl, rfl⟩ _
  have hr4 := Nat.le_trans ((ls_num p3.2).1) hr3
  have hi4 := rdNumber_i64 59 0 p3.2
  have hi4 : i64 (rdNum p3.2).1 := hi4
  generalize rdNum p3.2 = p4 at hr4 hi4 ⊢
  refine CallWD.own (rest := []) (rnum_c g hr4) (List.Perm.refl _) ?_
  rintro v5 own' u5 ⟨rfl, rfl, rfl⟩ _
  have hr5 := Nat.le_trans ((ls_num p4.2).1) hr4
  have hi5 := rdNumber_i64 59 0 p4.2
  have hi5 : i64 (rdNum p4.2).1 := hi5
  generalize rdNum p4.2 = p5 at hr5 hi5 ⊢
  simp only [WSD, A.wpD, mksV, sx, Nat.reduceBEq, Nat.reduceAdd, Nat.reduceLeDiff, reduceCtorEq]
  refine W_ret (RetQ.out rfl ⟨rfl, rfl⟩ ⟨_, rfl, rfl, ⟨_, rfl, hv3⟩⟩)
theorem rclaim_c {b : Nat} {r : Rd} {u : Mem} (g : GM u) (hr : r.rest.length ≤ maxR) : Fn Tryz.prog 83 [.agg #[.pointer (some ⟨b, 0, none⟩)]] [RdB b r] u fun v own' u' => ∃ cs, v = .agg cs.toArray ∧ own' = [RdB b (rdClaim r).2] ∧ claimR (MU u') cs (rdClaim r).1 := by
  refine fn83 fun cx hu => ?_
  refine W_seq (W_reg ?_)
  simp only [r83_0, r83_0a, sx, Nat.reduceBEq, Nat.reduceAdd, Nat.reduceLeDiff, reduceCtorEq]
  intro b1 b2
  refine W_seq (W_drw (drawOK mixedP) ?_)
  simp only [WSD, A.wpD, r83_1, r83_1a, r83_1b, r83_1c, r83_1d, r83_1e, r83_1f, r83_1g, r83_1h, r83_1i, r83_1j, r83_1k, r83_1l, r83_1m, r83_1n, rdClaim, sx, Nat.reduceBEq, Nat.reduceAdd, Nat.reduceLeDiff, reduceCtorEq]
  refine CallWD.own (rest := []) (rnum_c g hr) (List.Perm.refl _) ?_
  rintro v1 own' u1 ⟨rfl, rfl, rfl⟩ _
  have hr1 := Nat.le_trans ((ls_num r).1) hr
  have hi1 := rdNumber_i64 59 0 r
  have hi1 : i64 (rdNum r).1 := hi1
  generalize rdNum r = p1 at hr1 hi1 ⊢
  refine CallWD.own (rest := []) (rnum_c g hr1) (List.Perm.refl _) ?_
  rintro v2 own' u2 ⟨rfl, rfl, rfl⟩ _
  have hr2 := Nat.le_trans ((ls_num p1.2).1) hr1
  have hi2 := rdNumber_i64 59 0 p1.2
  have hi2 : i64 (rdNum p1.2).1 := hi2
  generalize rdNum p1.2 = p2 at hr2 hi2 ⊢
  refine CallWD.own (rest := []) (rnum_c g hr2) (List.Perm.refl _) ?_
  rintro v3 own' u3 ⟨rfl, rfl, rfl⟩ _
  have hr3 := Nat.le_trans ((ls_num p2.2).1) hr2
  have hi3 := rdNumber_i64 59 0 p2.2
  have hi3 : i64 (rdNum p2.2).1 := hi3
  generalize rdNum p2.2 = p3 at hr3 hi3 ⊢
  refine CallWD.own (rest := []) (rnum_c g hr3) (List.Perm.refl _) ?_
  rintro v4 own' u4 ⟨rfl, rfl, rfl⟩ _
  have hr4 := Nat.le_trans ((ls_num p3.2).1) hr3
  have hi4 := rdNumber_i64 59 0 p3.2
  have hi4 : i64 (rdNum p3.2).1 := hi4
  generalize rdNum p3.2 = p4 at hr4 hi4 ⊢
  refine CallWD.own (rest := []) (rnum_c g hr4) (List.Perm.refl _) ?_
  rintro v5 own' u5 ⟨rfl, rfl, rfl⟩ _
  have hr5 := Nat.le_trans ((ls_num p4.2).1) hr4
  have hi5 := rdNumber_i64 59 0 p4.2
  have hi5 : i64 (rdNum p4.2).1 := hi5
  generalize rdNum p4.2 = p5 at hr5 hi5 ⊢
  refine CallWD.own (rest := []) (rnum_c g hr5) (List.Perm.refl _) ?_
  rintro v6 own' u6 ⟨rfl, rfl, rfl⟩ _
  have hr6 := Nat.le_trans ((ls_num p5.2).1) hr5
  have hi6 := rdNumber_i64 59 0 p5.2
  have hi6 : i64 (rdNum p5.2).1 := hi6
  generalize rdNum p5.2 = p6 at hr6 hi6 ⊢
  refine CallWD.own (rest := []) (rnum_c g hr6) (List.Perm.refl _) ?_
  rintro v7 own' u7 ⟨rfl, rfl, rfl⟩ _
  have hr7 := Nat.le_trans ((ls_num p6.2).1) hr6
  have hi7 := rdNumber_i64 59 0 p6.2
  have hi7 : i64 (rdNum p6.2).1 := hi7
  generalize rdNum p6.2 = p7 at hr7 hi7 ⊢
  refine CallWD.own (rest := []) (rnums g hr7) (List.Perm.refl _) ?_
  rintro v8 own' u8 ⟨rfl, hv8⟩ hle8
  have g := g.mono hle8
  obtain ⟨a8, c8, rfl, hm8⟩ := hv8.formL
  have hr8 := Nat.le_trans (lw_nums p7.2) hr7
  generalize rdNums p7.2 = p8 at hr8 hv8 hm8 ⊢
  refine CallWD.own (rest := []) (rnums g hr8) (List.Perm.refl _) ?_
  rintro v9 own' u9 ⟨rfl, hv9⟩ hle9
  have g := g.mono hle9
  obtain ⟨a9, c9, rfl, hm9⟩ := hv9.formL
  have hr9 := Nat.le_trans (lw_nums p8.2) hr8
  generalize rdNums p8.2 = p9 at hr9 hv9 hm9 ⊢
  refine CallWD.own (rest := []) (rnum_c g hr9) (List.Perm.refl _) ?_
  rintro v10 own' u10 ⟨rfl, rfl, rfl⟩ _
  have hr10 := Nat.le_trans ((ls_num p9.2).1) hr9
  have hi10 := rdNumber_i64 59 0 p9.2
  have hi10 : i64 (rdNum p9.2).1 := hi10
  generalize rdNum p9.2 = p10 at hr10 hi10 ⊢
  refine CallWD.own (rest := []) (rnum_c g hr10) (List.Perm.refl _) ?_
  rintro v11 own' u11 ⟨rfl, rfl, rfl⟩ _
  have hr11 := Nat.le_trans ((ls_num p10.2).1) hr10
  have hi11 := rdNumber_i64 59 0 p10.2
  have hi11 : i64 (rdNum p10.2).1 := hi11
  generalize rdNum p10.2 = p11 at hr11 hi11 ⊢
  refine CallWD.own (rest := []) (rnum_c g hr11) (List.Perm.refl _) ?_
  rintro v12 own' u12 ⟨rfl, rfl, rfl⟩ _
  have hr12 := Nat.le_trans ((ls_num p11.2).1) hr11
  have hi12 := rdNumber_i64 59 0 p11.2
  have hi12 : i64 (rdNum p11.2).1 := hi12
  generalize rdNum p11.2 = p12 at hr12 hi12 ⊢
  have hv8 := hv8.mono (mpl_mu hle9)
  simp only [WSD, A.wpD, mksV, sx, Nat.reduceBEq, Nat.reduceAdd, Nat.reduceLeDiff, reduceCtorEq]
  refine W_ret (RetQ.out rfl ⟨rfl, rfl⟩ ⟨_, rfl, rfl, ⟨_, _, rfl, hv8, hv9⟩⟩)
end Go.Proofs.YtenmmfkgopffgaaGreatDoor

set_option maxRecDepth 4000
set_option linter.unnecessarySimpa false
namespace Go.Proofs.YtenmmfkgopffgaaGreatDoor
open Go

theorem W_frzB {P : Program} {D : Nat → Array Oper → List Nat → List I0 → List Nat → Bool} {n : Nat} {cx : Ctx} {Q : PQ} {e : Env} {bx : List Box} {own : List HP} {u : Mem} {s : SC} {nm blk : Nat} {cells : List Value} {T : TypeId}
    (h : ∀ u', mle u u' → u' blk = some (.cells cells.toArray T (0, 0)) → W P D n cx s Q e bx own u') : W P D n cx s Q e (⟨nm, blk, cells, T⟩ :: bx) own u := by
  refine W_some fun w i => ?_
  obtain ⟨i1, hle⟩ := Inv.freeze (L := props bx own) (b := blk) (o := .cells cells.toArray T (0, 0)) i
  exact ⟨bx, own, _, i1, h _ hle (by simp)⟩
theorem eaL_len {α : Type} {one : Rd → α × Rd} (h : Ls one) : ∀ (f : Nat) (n : Int) (acc : List α) (r : Rd), (eaL one f n acc r).1.length + (eaL one f n acc r).2.rest.length ≤ acc.length + r.rest.length
  | 0, n, acc, r => Nat.le_refl _
  | f + 1, n, acc, r => by
    rw [eaL]
    cases hc : decide (0 < n) && decide (0 < r.rest.length)
    · exact Nat.le_refl _
    · have ih := eaL_len h f (n - 1) (acc ++ [(one r).1]) (one r).2
      simp only [Bool.and_eq_true, decide_eq_true_eq] at hc
      have hl := (h r).2 hc.2
      simp only [cond_true]
      simp at ih
      omega
theorem each_len {α : Type} {one : Rd → α × Rd} (h : Ls one) (r : Rd) : (rdEach one r).1.length ≤ r.rest.length := by
  have h1 := (ls_num r).1
  unfold rdEach
  generalize rdNum r = p at *
  obtain ⟨n, r1⟩ := p
  simp only at h1 ⊢
  have := eaL_len h (r1.rest.length + 1) n [] r1
  simp at this
  omega
theorem All2_flat {α : Type} {f : α → List Value} : ∀ {css : List (List Value)} {xs : List α}, All2 (fun cs x => cs = f x) css xs → css = xs.map f
  | [], [], _ => rfl
  | [], _ :: _, h => h.elim
  | _ :: _, [], h => h.elim
  | c :: css, x :: xs, h => by rw [h.1, All2_flat h.2]; rfl
theorem Sl_of_row {α : Type} {E k : Nat} {R : MP → List Value → α → Prop} {v : Value} {css : List (List Value)} {xs : List α} {bs : BS} {u u' : Mem} (hR : ∀ (M N : MP) (cs : List Value) (x : α), R M cs x → mpl M N → R N cs x) (h : rowB E k v xs.length css.flatten bs) (hk : ∀ cs ∈ css, cs.length = k) (hm : xs.length ≤ maxN)
    (ha : All2 (R (MU u)) css xs) (hle : mle u u') (hmb : mpl (MB bs) (MU u')) : Sl k R (MU u') v xs := by
  have hl := ha.len
  rw [← hl] at h hm
  exact ⟨css, (SlC_rowB h hm hk).mono hmb, ha.mono fun _ _ q => hR _ _ _ _ q (mpl_mu hle)⟩
theorem SlF_of_row {α : Type} {E k : Nat} {f : α → List Value} {v : Value} {css : List (List Value)} {xs : List α} {bs : BS} {u' : Mem} (h : rowB E k v xs.length css.flatten bs) (hk : ∀ cs ∈ css, cs.length = k) (hm : xs.length ≤ maxN)
    (ha : All2 (fun cs x => cs = f x) css xs) (hmb : mpl (MB bs) (MU u')) : SlF k f (MU u') v xs := by
  have hl := ha.len
  rw [← hl] at h hm
  have := (SlC_rowB h hm hk).mono hmb
  rw [All2_flat ha] at this
  exact this
theorem CallW.each {α : Type} {f : FuncId} {p1 : Value} {b b3 nm T E k : Nat} {pre post : List Value} {R : MP → List Value → α → Prop} {one : Rd → α × Rd} {r : Rd} {bx : List Box} {own : List HP} {u : Mem} {RR : Value → List Box → List HP → Mem → Prop}
    (g : GM u) (hr : r.rest.length ≤ maxR) (hls : Ls one) (hst : Step f [.pointer (some ⟨b3, 0, none⟩), p1] b one (STl b3 T pre post E k R) u)
    (h : ∀ v v' css u', (∀ cs ∈ css, cs.length = k) → All2 (R (MU u')) css (rdEach one r).1 → mle u u' → RR v (⟨nm, b3, pre ++ v' :: post, T⟩ :: bx) (Row E k v' (rdEach one r).1.length css.flatten :: RdB b (rdEach one r).2 :: own) u') :
    CallW Tryz.prog 31 [.agg #[.pointer (some ⟨b, 0, none⟩)], .func (.func f) #[] #[.pointer (some ⟨b3, 0, none⟩), p1]] RR (⟨nm, b3, pre ++ .slice none 0 0 :: post, T⟩ :: bx) (Row E k (.slice none 0 0) 0 [] :: RdB b r :: own) u := by
  refine ⟨[Blk b3 (.cells (pre ++ .slice none 0 0 :: post).toArray T (0, 0)), Row E k (.slice none 0 0) 0 [], RdB b r], props bx own, u, fun cx w i => i.perm ?_, _,
    each_c (own0 := [Blk b3 (.cells (pre ++ .slice none 0 0 :: post).toArray T (0, 0)), Row E k (.slice none 0 0) 0 []]) g hr hls ⟨_, [], rfl, by simp, trivial⟩ hst, ?_⟩
  · unfold props
    show List.Perm (Box.hp _ :: (bx.map Box.hp ++ (Row E k (.slice none 0 0) 0 [] :: RdB b r :: own))) (_ :: Row E k (.slice none 0 0) 0 [] :: RdB b r :: (bx.map Box.hp ++ own))
    refine List.Perm.cons _ ?_
    exact (List.perm_middle).trans ((List.perm_middle).cons _)
  · rintro v own' u' ⟨own2, rfl, v', css, rfl, hk, hall⟩ hle
    refine ⟨⟨nm, b3, pre ++ v' :: post, T⟩ :: bx, Row E k v' (rdEach one r).1.length css.flatten :: RdB b (rdEach one r).2 :: own, u', fun cx w i => i.perm ?_, h v v' css u' hk hall hle⟩
    unfold props
    show List.Perm (_ :: Row E k v' (rdEach one r).1.length css.flatten :: RdB b (rdEach one r).2 :: (bx.map Box.hp ++ own)) (Box.hp _ :: (bx.map Box.hp ++ (Row E k v' (rdEach one r).1.length css.flatten :: RdB b (rdEach one r).2 :: own)))
    refine List.Perm.cons _ ?_
    exact ((List.perm_middle).trans ((List.perm_middle).cons _)).symm
theorem ls_of {α : Type} {one : Rd → α × Rd} (f : Rd → Rd) (h : ∀ r, (one r).2.rest.length ≤ (rdNum r).2.rest.length) : Ls one := fun r =>
  ⟨Nat.le_trans (h r) (ls_num r).1, fun hr => Nat.lt_of_le_of_lt (h r) ((ls_num r).2 hr)⟩
attribute [local irreducible] rdNumber rdNum rdInt rdNums rdText rdEach
theorem ls_member : Ls rdMember := ls_of id fun r => Nat.le_trans ((ls_num _).1) (Nat.le_trans ((ls_num _).1) (Nat.le_trans (lw_nums _) (Nat.le_trans ((ls_num _).1) (Nat.le_refl _))))
theorem ls_paid : Ls rdPaid := ls_of id fun r => Nat.le_trans ((ls_num _).1) (Nat.le_trans ((ls_num _).1) (Nat.le_trans ((ls_num _).1) (Nat.le_trans ((ls_num _).1) (Nat.le_refl _))))
theorem ls_bid : Ls rdBid := ls_of id fun r => Nat.le_trans ((ls_num _).1) (Nat.le_trans ((ls_int _).1) (Nat.le_trans ((ls_num _).1) (Nat.le_refl _)))
theorem ls_voice : Ls rdVoice := ls_of id fun r => Nat.le_trans ((ls_num _).1) (Nat.le_trans ((ls_num _).1) (Nat.le_trans ((ls_num _).1) (Nat.le_refl _)))
theorem ls_proposal : Ls rdProposal := ls_of id fun r => Nat.le_trans ((ls_num _).1) (Nat.le_trans ((lw_each (fun r => (ls_voice r).1)) _) (Nat.le_trans ((ls_num _).1) (Nat.le_trans ((ls_num _).1) (Nat.le_refl _))))
theorem ls_claim : Ls rdClaim := ls_of id fun r => Nat.le_trans ((ls_num _).1) (Nat.le_trans ((ls_num _).1) (Nat.le_trans ((ls_num _).1) (Nat.le_trans (lw_nums _) (Nat.le_trans (lw_nums _) (Nat.le_trans ((ls_num _).1) (Nat.le_trans ((ls_num _).1) (Nat.le_trans ((ls_num _).1) (Nat.le_trans ((ls_num _).1) (Nat.le_trans ((ls_num _).1) (Nat.le_trans ((ls_num _).1) (Nat.le_refl _)))))))))))
theorem ls_circle : Ls rdCircle := ls_of id fun r => Nat.le_trans ((ls_num _).1) (Nat.le_trans ((ls_int _).1) (Nat.le_trans ((lw_each (fun r => (ls_claim r).1)) _) (Nat.le_trans ((lw_each (fun r => (ls_proposal r).1)) _) (Nat.le_trans (lw_nums _) (Nat.le_trans (lw_nums _) (Nat.le_trans ((lw_each (fun r => (ls_int r).1)) _) (Nat.le_trans ((lw_each (fun r => (ls_bid r).1)) _) (Nat.le_trans ((lw_each (fun r => (ls_paid r).1)) _) (Nat.le_trans ((lw_each (fun r => (ls_member r).1)) _) (Nat.le_trans ((ls_num _).1) (Nat.le_trans ((ls_num _).1) (Nat.le_trans (lw_text _) (Nat.le_trans ((ls_num _).1) (Nat.le_refl _))))))))))))))
theorem ls_lot : Ls rdLot := ls_of id fun r => Nat.le_trans ((ls_int _).1) (Nat.le_trans ((ls_num _).1) (Nat.le_trans ((ls_num _).1) (Nat.le_trans ((ls_num _).1) (Nat.le_trans ((ls_num _).1) (Nat.le_trans ((ls_num _).1) (Nat.le_refl _))))))
theorem ls_void : Ls rdVoid := ls_of id fun r => Nat.le_trans ((ls_num _).1) (Nat.le_refl _)
end Go.Proofs.YtenmmfkgopffgaaGreatDoor
