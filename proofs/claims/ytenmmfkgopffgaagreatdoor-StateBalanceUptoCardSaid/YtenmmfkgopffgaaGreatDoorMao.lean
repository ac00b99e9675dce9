/- Part 15 of the proofs that the program's StateBack and StateBalance return true (texts Wa Wb Wq Wr joined): what its functions compute. -/
import Derived.Test.YtenmmfkgopffgaaGreatDoorMal
import Derived.Test.YtenmmfkgopffgaaGreatDoorMan
import Derived.Test.YtenmmfkgopffgaaGreatDoorMam
set_option linter.unusedVariables false
set_option linter.unusedSimpArgs false
namespace Go.Proofs.YtenmmfkgopffgaaGreatDoor
open Go

theorem mixedP : Tryz.prog.follows .mixedOrders = true := by kernel_rfl
def Cb {σ : Type} (cv : Value) (Ow : σ → List HP) (u : Mem) (step : σ → Int → Bool × σ) : Prop :=
  ∃ f first caps, cv = .func (.func f) first caps ∧ ∀ s x u2, mle u u2 → Fn Tryz.prog f (first.toList ++ [ic x] ++ caps.toList) (Ow s) u2 fun v own' u' => u' = u2 ∧ own' = Ow (step s x).2 ∧ v = .bool (step s x).1
def anyS {σ : Type} (step : σ → Int → Bool × σ) : σ → List Int → Bool × σ
  | s, [] => (false, s)
  | s, x :: r => bif (step s x).1 then (true, (step s x).2) else anyS step (step s x).2 r
def allS {σ : Type} (step : σ → Int → Bool × σ) : σ → List Int → Bool × σ
  | s, [] => (true, s)
  | s, x :: r => bif (step s x).1 then allS step (step s x).2 r else (false, (step s x).2)
theorem anyS_not {σ : Type} (step : σ → Int → Bool × σ) : ∀ (s : σ) (l : List Int), anyS (fun s x => (!(step s x).1, (step s x).2)) s l = (!(allS step s l).1, (allS step s l).2)
  | s, [] => rfl
  | s, x :: r => by
    simp only [anyS, allS]
    cases (step s x).1 with
    | true => simpa using anyS_not step (step s x).2 r
    | false => rfl

theorem flat_i1 (xs : List Int) {i : Nat} (h : i < (xs.map i1).length) : (xs.map i1)[i] = [ic (xs[i]'(by simpa using h))] := by simp [i1, ic]

theorem indexFunc {σ : Type} {v cv : Value} {xs : List Int} {Ow : σ → List HP} {u : Mem} {step : σ → Int → Bool × σ} {s0 : σ} (hv : Ints (MU u) v xs) (hc : Cb cv Ow u step) :
    Fn Tryz.prog 117 [v, cv] (Ow s0) u fun w own' u' => u' = u ∧ own' = Ow (anyS step s0 xs).2 ∧ ∃ k, w = ic k ∧ decide (k ≥ 0) = (anyS step s0 xs).1 := by
  obtain ⟨a, c, rfl, hmax, hcap, hrow, hlen⟩ := hv
  obtain ⟨f, first, caps, rfl, hf⟩ := hc
  simp only [List.length_map] at hmax hcap
  refine fn117 fun cx hu => ?_
  refine W_seq (W_reg ?_)
  simp only [r117_0, sx, Nat.reduceBEq, Nat.reduceAdd, Nat.reduceLeDiff, reduceCtorEq]
  refine W_seq (W_seq ?_)
  refine W_reg ?_
  simp only [r117_1, sx, Nat.reduceBEq, Nat.reduceAdd, Nat.reduceLeDiff, reduceCtorEq]
  refine W_blk (W_loop (fun m e bx own u' => ∃ i s, i ≤ xs.length ∧ m = xs.length - i ∧ e = [(0, .slice a xs.length c), (1, .func (.func f) first caps), (7, ic xs.length), (8, ic i)] ∧ bx = [] ∧ own = Ow s ∧ u' = u ∧ anyS step s0 xs = anyS step s (xs.drop i)) (m := xs.length) ⟨0, s0, by omega, by omega, ?_, rfl, rfl, rfl, rfl⟩ ?_)
  · simp [ic]
  rintro m e bx own u' ⟨i, s, hi, rfl, rfl, rfl, rfl, rfl, hs⟩
  unfold ic
  refine W_seq (W_reg ?_)
  simp only [r117_2, sx, Nat.reduceBEq, Nat.reduceAdd, Nat.reduceLeDiff, reduceCtorEq]
  refine W_seq (W_cnd rfl (fun hc => W_skip ?_) (fun hc => W_exit ?_))
  · have hlt : i < xs.length := by simpa using hc
    obtain ⟨b, o, rfl, hr⟩ := hrow (map_ne hlt)
    have hcell := SlC_at hr hlen (by simpa using hlt)
    rw [flat_i1] at hcell
    refine W_seq (W_blk ?_)
    refine W_seq (W_reg ?_)
    simp only [r117_3, sx, Nat.reduceBEq, Nat.reduceAdd, Nat.reduceLeDiff, reduceCtorEq]
    refine W_seq (W_reg ?_)
    simp only [r117_4, r117_4a, sx, Nat.reduceBEq, Nat.reduceAdd, Nat.reduceLeDiff, reduceCtorEq]
    refine ⟨by omega, [_], hcell.lrow, rfl, ?_⟩
    simp only [r117_4b, sx, Nat.reduceBEq, Nat.reduceAdd, Nat.reduceLeDiff, reduceCtorEq]
    refine CallW.own (rest := []) (hf s xs[i] u' (mle_refl _)) (by simp) ?_
    rintro v own' u2 ⟨rfl, rfl, rfl⟩ _
    simp only [sx, Nat.reduceBEq, Nat.reduceAdd, Nat.reduceLeDiff, reduceCtorEq]
    refine W_cnd rfl (fun hb => ?_) (fun hb => W_skip ?_)
    · refine W_seq (W_reg ?_)
      simp only [r117_5, sx, Nat.reduceBEq, Nat.reduceAdd, Nat.reduceLeDiff, reduceCtorEq]
      refine W_ret (RetQ.out rfl trivial ⟨rfl, ?_, _, rfl, ?_⟩)
      · rw [hs, List.drop_eq_getElem_cons hlt]; simp [anyS, hb]
      · rw [hs, List.drop_eq_getElem_cons hlt]; simp [anyS, hb]
    · refine W_reg ?_
      simp only [r117_6, sx, Nat.reduceBEq, Nat.reduceAdd, Nat.reduceLeDiff, reduceCtorEq]
      rw [wrapS hlt hmax]
      refine ⟨_, ?_, i + 1, (step s xs[i]).2, by omega, rfl, rfl, rfl, ?_⟩
      · omega
      · rw [hs, List.drop_eq_getElem_cons hlt]; simp [anyS, hb]
  · have hge : ¬ i < xs.length := by simpa using hc
    rw [List.drop_eq_nil_of_le (by omega)] at hs
    refine W_seq (W_reg ?_)
    simp only [r117_7, sx, Nat.reduceBEq, Nat.reduceAdd, Nat.reduceLeDiff, reduceCtorEq]
    refine W_ret (RetQ.out rfl trivial ⟨rfl, by rw [hs]; rfl, _, rfl, by rw [hs]; rfl⟩)

theorem containsFunc {σ : Type} {v cv : Value} {xs : List Int} {Ow : σ → List HP} {u : Mem} {step : σ → Int → Bool × σ} {s0 : σ} (hv : Ints (MU u) v xs) (hc : Cb cv Ow u step) :
    Fn Tryz.prog 84 [v, cv] (Ow s0) u fun w own' u' => u' = u ∧ own' = Ow (anyS step s0 xs).2 ∧ w = .bool (anyS step s0 xs).1 := by
  refine fn84 fun cx hu => ?_
  refine W_seq (W_reg ?_)
  simp only [r84_0, sx, Nat.reduceBEq, Nat.reduceAdd, Nat.reduceLeDiff, reduceCtorEq]
  refine W_seq (W_reg ?_)
  simp only [r84_1, r84_1a, sx, Nat.reduceBEq, Nat.reduceAdd, Nat.reduceLeDiff, reduceCtorEq]
  refine CallW.own (rest := []) (indexFunc (s0 := s0) hv hc) (by simp) ?_
  rintro w own' u' ⟨rfl, rfl, k, rfl, hk⟩ _
  simp only [r84_1b, ic, sx, Nat.reduceBEq, Nat.reduceAdd, Nat.reduceLeDiff, reduceCtorEq]
  refine W_ret (RetQ.out rfl trivial ⟨rfl, by simp, by rw [hk]⟩)

theorem every1 {σ : Type} {x : Int} {b : Nat} {cv : Value} {T : TypeId} {Ow : σ → List HP} {u : Mem} {step : σ → Int → Bool × σ} {s : σ} (hb : u b = some (.cells #[cv] T (0, 0))) (hc : Cb cv Ow u step) :
    Fn Tryz.prog 85 [ic x, .pointer (some ⟨b, 0, none⟩)] (Ow s) u fun v own' u' => u' = u ∧ own' = Ow (step s x).2 ∧ v = .bool (!(step s x).1) := by
  obtain ⟨f, first, caps, rfl, hf⟩ := hc
  refine fn85 fun cx hu => ?_
  refine W_seq (W_reg ?_)
  simp only [r85_0, sx, Nat.reduceBEq, Nat.reduceAdd, Nat.reduceLeDiff, reduceCtorEq]
  refine W_seq (W_reg ?_)
  simp only [r85_1, sx, Nat.reduceBEq, Nat.reduceAdd, Nat.reduceLeDiff, reduceCtorEq]
  refine ⟨[_], .inl ⟨_, _, _, hb, rfl⟩, rfl, ?_⟩
  simp only [r85_1a, r85_1b, sx, Nat.reduceBEq, Nat.reduceAdd, Nat.reduceLeDiff, reduceCtorEq]
  refine CallW.own (rest := []) (hf s x u (mle_refl _)) (by simp) ?_
  rintro w own' u' ⟨rfl, rfl, rfl⟩ _
  simp only [r85_1c, sx, Nat.reduceBEq, Nat.reduceAdd, Nat.reduceLeDiff, reduceCtorEq]
  refine W_ret (RetQ.out rfl trivial ⟨rfl, by simp, rfl⟩)

theorem everyF {σ : Type} {v cv : Value} {xs : List Int} {Ow : σ → List HP} {u : Mem} {step : σ → Int → Bool × σ} {s0 : σ} (hv : Ints (MU u) v xs) (hc : Cb cv Ow u step) :
    Fn Tryz.prog 39 [v, cv] (Ow s0) u fun w own' u' => u' = u ∧ own' = Ow (allS step s0 xs).2 ∧ w = .bool (allS step s0 xs).1 := by
  obtain ⟨f, first, caps, rfl, hf⟩ := hc
  refine fn39 fun cx hu => ?_
  refine W_seq (W_reg ?_)
  simp only [r39_0, r39_0a, sx, Nat.reduceBEq, Nat.reduceAdd, Nat.reduceLeDiff, reduceCtorEq]
  intro blk
  refine W_seq (W_reg ?_)
  simp only [r39_1, r39_1a, sx, Nat.reduceBEq, Nat.reduceAdd, Nat.reduceLeDiff, reduceCtorEq]
  refine CallW.boxF (rest := []) (ownf := Ow s0) (Q := fun w own' u' => own' = Ow (anyS (fun s x => (!(step s x).1, (step s x).2)) s0 xs).2 ∧ w = .bool (anyS (fun s x => (!(step s x).1, (step s x).2)) s0 xs).1) (by simp) (fun u2 h1 h2 => ?_) en84 ?_
  · refine (containsFunc (hv.mono (mpl_mu h1)) (Ow := Ow) (step := fun s x => (!(step s x).1, (step s x).2)) ⟨_, _, _, rfl, fun s x u3 h3 => ?_⟩).mono fun v o u' ⟨q1, q2, q3⟩ => ⟨q1, fun _ _ => ⟨q2, q3⟩⟩
    refine every1 (step := step) (T := 98) (h3 _ _ h2) ?_
    exact ⟨f, first, caps, rfl, fun s x u4 h4 => hf s x u4 (mle_trans (mle_trans h1 h3) h4)⟩
  · rintro w own' ⟨rfl, rfl⟩
    simp only [r39_1b, sx, Nat.reduceBEq, Nat.reduceAdd, Nat.reduceLeDiff, reduceCtorEq]
    refine W_ret (RetQ.out rfl trivial ⟨rfl, by simp [anyS_not], by simp [anyS_not]⟩)
end Go.Proofs.YtenmmfkgopffgaaGreatDoor

namespace Go.Proofs.YtenmmfkgopffgaaGreatDoor
open Go

theorem number_q (x : Int) (u : Mem) : QFn Tryz.prog 38 [ic x] u (.bool (numB x)) := by
  refine fn38 fun cx hu => ?_
  refine W_seq (W_reg ?_)
  simp only [r38_0, sx, Nat.reduceBEq, Nat.reduceAdd, Nat.reduceLeDiff, reduceCtorEq]
  refine W_seq (W_reg ?_)
  simp only [r38_1, ic, sx, Nat.reduceBEq, Nat.reduceAdd, Nat.reduceLeDiff, reduceCtorEq]
  refine W_ret (RetQ.out rfl trivial ⟨?_, rfl, rfl⟩)
  simp [numB]
theorem mark_q (x : Int) (u : Mem) : QFn Tryz.prog 44 [ic x] u (.bool (markB x)) := by
  refine fn44 fun cx hu => ?_
  refine W_seq (W_reg ?_)
  simp only [r44_0, sx, Nat.reduceBEq, Nat.reduceAdd, Nat.reduceLeDiff, reduceCtorEq]
  refine W_seq (W_reg ?_)
  simp only [r44_1, ic, sx, Nat.reduceBEq, Nat.reduceAdd, Nat.reduceLeDiff, reduceCtorEq]
  refine W_ret (RetQ.out rfl trivial ⟨?_, rfl, rfl⟩)
  simp [markB]
theorem key_q (x : Int) (u : Mem) : QFn Tryz.prog 41 [ic x] u (.bool (keyB x)) := by
  refine fn41 fun cx hu => ?_
  refine W_seq (W_reg ?_)
  simp only [r41_0, sx, Nat.reduceBEq, Nat.reduceAdd, Nat.reduceLeDiff, reduceCtorEq]
  refine W_seq (W_reg ?_)
  simp only [r41_1, ic, sx, Nat.reduceBEq, Nat.reduceAdd, Nat.reduceLeDiff, reduceCtorEq]
  refine W_ret (RetQ.out rfl trivial ⟨?_, rfl, rfl⟩)
  simp [keyB]
theorem turn_q (x : Int) (u : Mem) : QFn Tryz.prog 86 [ic x] u (.bool (turnB x)) := by
  refine fn86 fun cx hu => ?_
  refine W_seq (W_reg ?_)
  simp only [r86_0, sx, Nat.reduceBEq, Nat.reduceAdd, Nat.reduceLeDiff, reduceCtorEq]
  refine W_seq (W_reg ?_)
  simp only [r86_1, r86_1a, ic, sx, Nat.reduceBEq, Nat.reduceAdd, Nat.reduceLeDiff, reduceCtorEq]
  refine ⟨.bool (keyB x), fun _ => key_q x u, ?_⟩
  simp only [r86_1b, sx, Nat.reduceBEq, Nat.reduceAdd, Nat.reduceLeDiff, reduceCtorEq]
  refine W_ret (RetQ.out rfl trivial ⟨?_, rfl, rfl⟩)
  simp [turnB]

theorem mget_S (S : List Int) (x : Int) : mget (S.map fun k => (k, Value.bool true)) x (.bool false) = .bool (S.contains x) := by
  induction S with
  | nil => rfl
  | cons a r ih =>
    simp only [List.map_cons, mget, ih, List.contains_cons]
    by_cases h : a = x
    · subst h; simp
    · have h2 : (x == a) = false := by simpa using fun q => h q.symm
      have h1 : (a == x) = false := by simpa using h
      simp [h1, h2]
theorem mput_S (S : List Int) (x : Int) : mput (S.map fun k => (k, Value.bool true)) x (.bool true) = (addS S x).map fun k => (k, .bool true) := by
  induction S with
  | nil => rfl
  | cons a r ih =>
    simp only [List.map_cons, mput, ih, addS, List.contains_cons]
    by_cases h : a = x
    · subst h; simp
    · have h2 : (x == a) = false := by simpa using fun q => h q.symm
      have h1 : (a == x) = false := by simpa using h
      simp only [h1, h2, cond_false, Bool.false_or, addS]
      cases r.contains x <;> simp
theorem first_c (b : Nat) (S : List Int) (x : Int) (u : Mem) : Fn Tryz.prog 42 [.map (some b), ic x] [SMap b S] u fun v own' u' => u' = u ∧ own' = [SMap b (addS S x)] ∧ v = .bool (!(S.contains x)) := by
  refine fn42 fun cx hu => ?_
  refine W_seq (W_reg ?_)
  simp only [r42_0, sx, Nat.reduceBEq, Nat.reduceAdd, Nat.reduceLeDiff, reduceCtorEq]
  refine W_seq (W_reg ?_)
  simp only [r42_1, r42_1a, ic, sx, Nat.reduceBEq, Nat.reduceAdd, Nat.reduceLeDiff, reduceCtorEq]
  refine ⟨_, [], List.Perm.refl _, ?_⟩
  simp only [r42_1b, mget_S, sx, Nat.reduceBEq, Nat.reduceAdd, Nat.reduceLeDiff, reduceCtorEq]
  refine W_seq (W_reg ?_)
  simp only [r42_2, r42_2a, sx, Nat.reduceBEq, Nat.reduceAdd, Nat.reduceLeDiff, reduceCtorEq]
  refine ⟨_, [], List.Perm.refl _, ?_⟩
  simp only [mput_S, sx, Nat.reduceBEq, Nat.reduceAdd, Nat.reduceLeDiff, reduceCtorEq]
  refine W_seq (W_reg ?_)
  simp only [r42_3, sx, Nat.reduceBEq, Nat.reduceAdd, Nat.reduceLeDiff, reduceCtorEq]
  refine W_ret (RetQ.out rfl trivial ⟨rfl, rfl, rfl⟩)
def keyS (S : List Int) (x : Int) : Bool × List Int := (keyB x && !(S.contains x), bif keyB x then addS S x else S)
theorem right1 (b c : Nat) (T : TypeId) (u : Mem) (hb : u b = some (.cells #[.map (some c)] T (0, 0))) (S : List Int) (x : Int) : Fn Tryz.prog 40 [ic x, .pointer (some ⟨b, 0, none⟩)] [SMap c S] u fun v own' u' => u' = u ∧ own' = [SMap c (keyS S x).2] ∧ v = .bool (keyS S x).1 := by
  refine fn40 fun cx hu => ?_
  refine W_seq (W_reg ?_)
  simp only [r40_0, sx, Nat.reduceBEq, Nat.reduceAdd, Nat.reduceLeDiff, reduceCtorEq]
  refine W_seq (W_reg ?_)
  simp only [r40_1, r40_1a, sx, Nat.reduceBEq, Nat.reduceAdd, Nat.reduceLeDiff, reduceCtorEq]
  refine ⟨_, key_q x u, ?_⟩
  simp only [r40_1b, r40_1c, r40_1c_g, r40_1c_ga, sx, Nat.reduceBEq, Nat.reduceAdd, Nat.reduceLeDiff, reduceCtorEq]
  refine ⟨fun hk => ⟨[_], .inl ⟨_, _, _, hb, rfl⟩, rfl, ?_⟩, fun hk => ?_⟩
  · simp only [r40_1c_gb, sx, Nat.reduceBEq, Nat.reduceAdd, Nat.reduceLeDiff, reduceCtorEq]
    refine CallW.own (rest := []) (first_c c S x u) (List.Perm.refl _) ?_
    rintro v own' u' ⟨rfl, rfl, rfl⟩ _
    simp only [r40_1d, hk, sx, Nat.reduceBEq, Nat.reduceAdd, Nat.reduceLeDiff, reduceCtorEq]
    refine W_ret (RetQ.out rfl trivial ⟨rfl, ?_, ?_⟩)
    · simp [keyS, hk]
    · simp [keyS, hk]
  · simp only [r40_1c_gb, r40_1d, hk, sx, Nat.reduceBEq, Nat.reduceAdd, Nat.reduceLeDiff, reduceCtorEq]
    refine W_ret (RetQ.out rfl trivial ⟨rfl, ?_, ?_⟩)
    · simp [keyS, hk]
    · simp [keyS, hk]
theorem keysB_all : ∀ (S : List Int) (l : List Int), (allS keyS S l).1 = keysB S l
  | S, [] => rfl
  | S, x :: r => by
    simp only [allS, keysB, keyS]
    cases keyB x <;> cases S.contains x <;> simp [keysB_all]
theorem allS_pure (p : Int → Bool) : ∀ (l : List Int), allS (σ := Unit) (fun _ x => (p x, ())) () l = (l.all p, ())
  | [] => rfl
  | x :: r => by simp only [allS, List.all_cons, allS_pure p r]; cases p x <;> rfl
theorem every_q {v : Value} {xs : List Int} {u : Mem} {f : FuncId} {p : Int → Bool} (hv : Ints (MU u) v xs) (hf : ∀ x u, QFn Tryz.prog f [ic x] u (.bool (p x))) : QFn Tryz.prog 39 [v, .func (.func f) #[] #[]] u (.bool (xs.all p)) := by
  have := everyF (σ := Unit) (s0 := ()) (Ow := fun _ => []) (step := fun _ x => (p x, ())) hv ⟨f, #[], #[], rfl, fun s x u2 _ => (hf x u2).mono fun v o u' ⟨h1, h2, h3⟩ => ⟨h3, h2, h1⟩⟩
  refine this.mono ?_
  rintro w o u' ⟨rfl, rfl, rfl⟩
  rw [allS_pure]
  exact ⟨rfl, rfl, rfl⟩
theorem every_n {v : Value} {xs : List Int} {u : Mem} (hv : Ints (MU u) v xs) : QFn Tryz.prog 39 [v, .func (.func 38) #[] #[]] u (.bool (allN xs)) := every_q hv number_q
theorem every_k {v : Value} {xs : List Int} {u : Mem} (hv : Ints (MU u) v xs) : QFn Tryz.prog 39 [v, .func (.func 41) #[] #[]] u (.bool (allK xs)) := every_q hv key_q
theorem every_t {v : Value} {xs : List Int} {u : Mem} (hv : Ints (MU u) v xs) : QFn Tryz.prog 39 [v, .func (.func 86) #[] #[]] u (.bool (allT xs)) := every_q hv turn_q
theorem ints_new {T : TypeId} {fz : Nat × Nat} {u : Mem} {blk : Nat} {xs : List Int} (hm : xs.length ≤ maxN) (h : u blk = some (.cells (flatC (xs.map ic)).toArray T fz)) : Ints (MU u) (.slice (some ⟨blk, 0, none⟩) xs.length xs.length) xs := by
  have hf : ∀ l : List Int, flatC (l.map ic) = (l.map i1).flatten := fun l => by
    induction l with
    | nil => rfl
    | cons x r ih => simp [flatC, vcells, ih]
  refine ⟨some ⟨blk, 0, none⟩, xs.length, by simp, by simpa using hm, by simp, fun _ => ⟨blk, 0, rfl, _, _, _, h, ?_⟩, by simp⟩
  rw [← hf]; simp
end Go.Proofs.YtenmmfkgopffgaaGreatDoor

set_option maxRecDepth 4000
namespace Go.Proofs.YtenmmfkgopffgaaGreatDoor
open Go
def rowB (T : TypeId) (k : Nat) (v : Value) (n : Nat) (xs : List Value) (bs : BS) : Prop :=
  xs.length = n * k ∧ ((v = .slice none 0 0 ∧ n = 0 ∧ bs = []) ∨ ∃ g cap cur, v = .slice (some ⟨g, 0, none⟩) n cap ∧ bs = [(g, .cells cur T (0, 0))] ∧ n ≤ cap ∧ cap ≤ maxLen ∧ cur.size = cap * k ∧ cur.toList.take (n * k) = xs)
theorem Row_split {cx : Ctx} {T : TypeId} {k n : Nat} {v : Value} {xs : List Value} {L : List HP} {u : Mem} {w : World} (i : Inv cx (Row T k v n xs :: L) u w) : ∃ bs, rowB T k v n xs bs ∧ Inv cx (ownB bs ++ L) u w := by
  obtain ⟨⟨h, ⟨h1, h2, sp, ⟨hl, hb⟩, s⟩, d, hh, hn⟩, r1, r2, r3, r4, r5, r6, r7, r8⟩ := i
  rcases hb with ⟨rfl, rfl, he⟩ | ⟨g, cap, cur, rfl, hb, a, b, c, e⟩
  · refine ⟨[], ⟨hl, .inl ⟨rfl, rfl, rfl⟩⟩, ⟨⟨h, ?_, d, hh, hn⟩, r1, r2, r3, r4, r5, r6, r7, r8⟩⟩
    rw [spl_emp_left sp he]; exact s
  · exact ⟨[(g, .cells cur T (0, 0))], ⟨hl, .inr ⟨g, cap, cur, rfl, rfl, a, b, c, e⟩⟩, ⟨⟨h, ⟨h1, h2, sp, hb, s⟩, d, hh, hn⟩, r1, r2, r3, r4, r5, r6, r7, r8⟩⟩
theorem SlC_rowB {T : TypeId} {k : Nat} {v : Value} {css : List (List Value)} {bs : BS} (h : rowB T k v css.length css.flatten bs) (hm : css.length ≤ maxN) (hk : ∀ cs ∈ css, cs.length = k) : SlC (MB bs) k v css := by
  obtain ⟨hl, ⟨rfl, h0, rfl⟩ | ⟨g, cap, cur, rfl, rfl, a, b, c, e⟩⟩ := h
  · have : css = [] := List.eq_nil_of_length_eq_zero h0
    subst this
    exact ⟨none, 0, rfl, by simp, by simp, fun q => absurd rfl q, hk⟩
  · refine ⟨_, cap, rfl, hm, a, fun _ => ⟨g, 0, rfl, cur, T, (0, 0), by simp [MB], ?_⟩, hk⟩
    rw [List.drop_zero, hl, e]
theorem all1_flat {css : List (List Value)} (h : ∀ cs ∈ css, all1 cs) : all1 css.flatten := by
  have app : ∀ a b : List Value, all1 a → all1 b → all1 (a ++ b) := fun a b ha hb => by
    induction a with
    | nil => exact hb
    | cons x r ih => exact ⟨ha.1, ih ha.2⟩
  induction css with
  | nil => trivial
  | cons c r ih => rw [List.flatten_cons]; exact app _ _ (h c (by simp)) (ih fun cs hcs => h cs (by simp [hcs]))
theorem flat_len {css : List (List Value)} {k : Nat} (h : ∀ cs ∈ css, cs.length = k) : css.flatten.length = css.length * k := by
  induction css with
  | nil => simp
  | cons c r ih =>
    rw [List.flatten_cons, List.length_append, ih fun cs hcs => h cs (by simp [hcs]), h c (by simp), List.length_cons, Nat.add_mul]; omega

theorem SlC.form {M : MP} {k : Nat} {v : Value} {css : List (List Value)} (h : SlC M k v css) : ∃ a n c, v = .slice a n c := by obtain ⟨a, c, rfl, _⟩ := h; exact ⟨_, _, _, rfl⟩
def CloneQ (k : Nat) (u : Mem) (css : List (List Value)) (v : Value) (own' : List HP) (u' : Mem) : Prop := u' = u ∧ ∃ bs, own' = ownB bs ∧ SlC (MB bs) k v css ∧ ∃ T, rowB T k v css.length css.flatten bs
theorem setAt_mid (A B vs : List Value) (h : vs.length ≤ B.length) : setAt (A ++ B) A.length vs = A ++ setAt B 0 vs := by
  induction A with
  | nil => rfl
  | cons a r ih => simp [setAt, ih]
theorem setAt_fst : ∀ (vs B : List Value), vs.length ≤ B.length → setAt B 0 vs = vs ++ B.drop vs.length
  | [], B, _ => by rw [setAt_nil]; rfl
  | v :: vs, [], h => by simp at h
  | v :: vs, b :: B, h => by
    simp only [setAt, List.cons_append, List.length_cons, List.drop_succ_cons]
    rw [setAt_fst vs B (by simpa using h)]
theorem setAt_flat {news olds : List (List Value)} {c vs tail : List Value} {k : Nat} (hn : ∀ cs ∈ news, cs.length = k) (hc : c.length = k) (hv : vs.length = k) :
    setAt ((news ++ c :: olds).flatten ++ tail) (news.length * k) vs = ((news ++ [vs]) ++ olds).flatten ++ tail := by
  have h1 : news.length * k = news.flatten.length := (flat_len hn).symm
  have h2 : (news ++ c :: olds).flatten ++ tail = news.flatten ++ (c ++ (olds.flatten ++ tail)) := by simp
  rw [h1, h2, setAt_mid _ _ _ (by simp; omega), setAt_fst _ _ (by simp; omega)]
  have h3 : vs.length = c.length := by omega
  rw [h3, List.drop_left]
  simp
theorem clone53 {v : Value} {css : List (List Value)} {u : Mem} (hv : SlC (MU u) 1 v css) (h1 : ∀ cs ∈ css, all1 cs) : Fn Tryz.prog 53 [v] [] u (CloneQ 1 u css) := by
  obtain ⟨a, c, rfl, hmax, hcap, hrow, hlen⟩ := hv
  refine fn53 fun cx hu => ?_
  refine W_seq (W_reg ?_)
  simp only [r53_0, sx, Nat.reduceBEq, Nat.reduceAdd, Nat.reduceLeDiff, reduceCtorEq]
  refine W_seq ?_
  refine W_seq (W_reg ?_)
  simp only [r53_1, sx, Nat.reduceBEq, Nat.reduceAdd, Nat.reduceLeDiff, reduceCtorEq]
  refine W_cnd rfl (fun hb => ?_) (fun hb => W_skip ?_)
  · refine W_seq (W_reg ?_)
    simp only [r53_2, sx, Nat.reduceBEq, Nat.reduceAdd, Nat.reduceLeDiff, reduceCtorEq]
    have ha : a = none := by simpa using hb
    have h0 : css = [] := by
      cases css with
      | nil => rfl
      | cons x r => obtain ⟨b, o, q, _⟩ := hrow (by simp); rw [ha] at q; cases q
    subst h0
    refine W_ret (RetQ.out rfl trivial ⟨rfl, [], rfl, ⟨none, 0, rfl, by simp, by simp, fun q => absurd rfl q, hlen⟩, 0, ⟨by simp, .inl ⟨rfl, rfl, rfl⟩⟩⟩)
  refine W_seq (W_reg ?_)
  simp only [r53_3, r53_3a, r53_3b, r53_3c, sx, Nat.reduceBEq, Nat.reduceAdd, Nat.reduceLeDiff, reduceCtorEq]
  refine .inr fun blk => ?_
  refine ⟨0, [], [], css.flatten, List.Perm.refl _, flat_len hlen, fun hp => ?_, all1_flat h1, by unfold maxN at hmax; omega, by unfold maxN at hmax; omega, fun v' _ => ?_⟩
  · obtain ⟨b, o, q1, q2⟩ := hrow (by intro q; subst q; simp at hp)
    exact ⟨b, o, q1, q2⟩
  simp only [sx, Nat.reduceBEq, Nat.reduceAdd, Nat.reduceLeDiff, reduceCtorEq]
  refine W_some fun w i => ?_
  obtain ⟨bs, hb2, i2⟩ := Row_split (L := []) (by simpa [props] using i)
  refine ⟨[], ownB bs, _, by simpa [props] using i2, ?_⟩
  refine W_ret (RetQ.out rfl trivial ⟨rfl, bs, rfl, SlC_rowB (by simpa using hb2) hmax hlen, _, by simpa using hb2⟩)
theorem clone54 {v : Value} {css : List (List Value)} {u : Mem} (hv : SlC (MU u) 7 v css) (h1 : ∀ cs ∈ css, all1 cs) : Fn Tryz.prog 54 [v] [] u (CloneQ 7 u css) := by
  obtain ⟨a, c, rfl, hmax, hcap, hrow, hlen⟩ := hv
  refine fn54 fun cx hu => ?_
  refine W_seq (W_reg ?_)
  simp only [r54_0, sx, Nat.reduceBEq, Nat.reduceAdd, Nat.reduceLeDiff, reduceCtorEq]
  refine W_seq ?_
  refine W_seq (W_reg ?_)
  simp only [r54_1, sx, Nat.reduceBEq, Nat.reduceAdd, Nat.reduceLeDiff, reduceCtorEq]
  refine W_cnd rfl (fun hb => ?_) (fun hb => W_skip ?_)
  · refine W_seq (W_reg ?_)
    simp only [r54_2, sx, Nat.reduceBEq, Nat.reduceAdd, Nat.reduceLeDiff, reduceCtorEq]
    have ha : a = none := by simpa using hb
    have h0 : css = [] := by
      cases css with
      | nil => rfl
      | cons x r => obtain ⟨b, o, q, _⟩ := hrow (by simp); rw [ha] at q; cases q
    subst h0
    refine W_ret (RetQ.out rfl trivial ⟨rfl, [], rfl, ⟨none, 0, rfl, by simp, by simp, fun q => absurd rfl q, hlen⟩, 0, ⟨by simp, .inl ⟨rfl, rfl, rfl⟩⟩⟩)
  refine W_seq (W_reg ?_)
  simp only [r54_3, r54_3a, r54_3b, r54_3c, sx, Nat.reduceBEq, Nat.reduceAdd, Nat.reduceLeDiff, reduceCtorEq]
  refine .inr fun blk => ?_
  refine ⟨0, [], [], css.flatten, List.Perm.refl _, flat_len hlen, fun hp => ?_, all1_flat h1, by unfold maxN at hmax; omega, by unfold maxN at hmax; omega, fun v' _ => ?_⟩
  · obtain ⟨b, o, q1, q2⟩ := hrow (by intro q; subst q; simp at hp)
    exact ⟨b, o, q1, q2⟩
  simp only [sx, Nat.reduceBEq, Nat.reduceAdd, Nat.reduceLeDiff, reduceCtorEq]
  refine W_some fun w i => ?_
  obtain ⟨bs, hb2, i2⟩ := Row_split (L := []) (by simpa [props] using i)
  refine ⟨[], ownB bs, _, by simpa [props] using i2, ?_⟩
  refine W_ret (RetQ.out rfl trivial ⟨rfl, bs, rfl, SlC_rowB (by simpa using hb2) hmax hlen, _, by simpa using hb2⟩)
theorem clone55 {v : Value} {css : List (List Value)} {u : Mem} (hv : SlC (MU u) 2 v css) (h1 : ∀ cs ∈ css, all1 cs) : Fn Tryz.prog 55 [v] [] u (CloneQ 2 u css) := by
  obtain ⟨a, c, rfl, hmax, hcap, hrow, hlen⟩ := hv
  refine fn55 fun cx hu => ?_
  refine W_seq (W_reg ?_)
  simp only [r55_0, sx, Nat.reduceBEq, Nat.reduceAdd, Nat.reduceLeDiff, reduceCtorEq]
  refine W_seq ?_
  refine W_seq (W_reg ?_)
  simp only [r55_1, sx, Nat.reduceBEq, Nat.reduceAdd, Nat.reduceLeDiff, reduceCtorEq]
  refine W_cnd rfl (fun hb => ?_) (fun hb => W_skip ?_)
  · refine W_seq (W_reg ?_)
    simp only [r55_2, sx, Nat.reduceBEq, Nat.reduceAdd, Nat.reduceLeDiff, reduceCtorEq]
    have ha : a = none := by simpa using hb
    have h0 : css = [] := by
      cases css with
      | nil => rfl
      | cons x r => obtain ⟨b, o, q, _⟩ := hrow (by simp); rw [ha] at q; cases q
    subst h0
    refine W_ret (RetQ.out rfl trivial ⟨rfl, [], rfl, ⟨none, 0, rfl, by simp, by simp, fun q => absurd rfl q, hlen⟩, 0, ⟨by simp, .inl ⟨rfl, rfl, rfl⟩⟩⟩)
  refine W_seq (W_reg ?_)
  simp only [r55_3, r55_3a, r55_3b, r55_3c, sx, Nat.reduceBEq, Nat.reduceAdd, Nat.reduceLeDiff, reduceCtorEq]
  refine .inr fun blk => ?_
  refine ⟨0, [], [], css.flatten, List.Perm.refl _, flat_len hlen, fun hp => ?_, all1_flat h1, by unfold maxN at hmax; omega, by unfold maxN at hmax; omega, fun v' _ => ?_⟩
  · obtain ⟨b, o, q1, q2⟩ := hrow (by intro q; subst q; simp at hp)
    exact ⟨b, o, q1, q2⟩
  simp only [sx, Nat.reduceBEq, Nat.reduceAdd, Nat.reduceLeDiff, reduceCtorEq]
  refine W_some fun w i => ?_
  obtain ⟨bs, hb2, i2⟩ := Row_split (L := []) (by simpa [props] using i)
  refine ⟨[], ownB bs, _, by simpa [props] using i2, ?_⟩
  refine W_ret (RetQ.out rfl trivial ⟨rfl, bs, rfl, SlC_rowB (by simpa using hb2) hmax hlen, _, by simpa using hb2⟩)
theorem clone56 {v : Value} {css : List (List Value)} {u : Mem} (hv : SlC (MU u) 15 v css) (h1 : ∀ cs ∈ css, all1 cs) : Fn Tryz.prog 56 [v] [] u (CloneQ 15 u css) := by
  obtain ⟨a, c, rfl, hmax, hcap, hrow, hlen⟩ := hv
  refine fn56 fun cx hu => ?_
  refine W_seq (W_reg ?_)
  simp only [r56_0, sx, Nat.reduceBEq, Nat.reduceAdd, Nat.reduceLeDiff, reduceCtorEq]
  refine W_seq ?_
  refine W_seq (W_reg ?_)
  simp only [r56_1, sx, Nat.reduceBEq, Nat.reduceAdd, Nat.reduceLeDiff, reduceCtorEq]
  refine W_cnd rfl (fun hb => ?_) (fun hb => W_skip ?_)
  · refine W_seq (W_reg ?_)
    simp only [r56_2, sx, Nat.reduceBEq, Nat.reduceAdd, Nat.reduceLeDiff, reduceCtorEq]
    have ha : a = none := by simpa using hb
    have h0 : css = [] := by
      cases css with
      | nil => rfl
      | cons x r => obtain ⟨b, o, q, _⟩ := hrow (by simp); rw [ha] at q; cases q
    subst h0
    refine W_ret (RetQ.out rfl trivial ⟨rfl, [], rfl, ⟨none, 0, rfl, by simp, by simp, fun q => absurd rfl q, hlen⟩, 0, ⟨by simp, .inl ⟨rfl, rfl, rfl⟩⟩⟩)
  refine W_seq (W_reg ?_)
  simp only [r56_3, r56_3a, r56_3b, r56_3c, sx, Nat.reduceBEq, Nat.reduceAdd, Nat.reduceLeDiff, reduceCtorEq]
  refine .inr fun blk => ?_
  refine ⟨0, [], [], css.flatten, List.Perm.refl _, flat_len hlen, fun hp => ?_, all1_flat h1, by unfold maxN at hmax; omega, by unfold maxN at hmax; omega, fun v' _ => ?_⟩
  · obtain ⟨b, o, q1, q2⟩ := hrow (by intro q; subst q; simp at hp)
    exact ⟨b, o, q1, q2⟩
  simp only [sx, Nat.reduceBEq, Nat.reduceAdd, Nat.reduceLeDiff, reduceCtorEq]
  refine W_some fun w i => ?_
  obtain ⟨bs, hb2, i2⟩ := Row_split (L := []) (by simpa [props] using i)
  refine ⟨[], ownB bs, _, by simpa [props] using i2, ?_⟩
  refine W_ret (RetQ.out rfl trivial ⟨rfl, bs, rfl, SlC_rowB (by simpa using hb2) hmax hlen, _, by simpa using hb2⟩)
theorem clone63 {v : Value} {css : List (List Value)} {u : Mem} (hv : SlC (MU u) 4 v css) (h1 : ∀ cs ∈ css, all1 cs) : Fn Tryz.prog 63 [v] [] u (CloneQ 4 u css) := by
  obtain ⟨a, c, rfl, hmax, hcap, hrow, hlen⟩ := hv
  refine fn63 fun cx hu => ?_
  refine W_seq (W_reg ?_)
  simp only [r63_0, sx, Nat.reduceBEq, Nat.reduceAdd, Nat.reduceLeDiff, reduceCtorEq]
  refine W_seq ?_
  refine W_seq (W_reg ?_)
  simp only [r63_1, sx, Nat.reduceBEq, Nat.reduceAdd, Nat.reduceLeDiff, reduceCtorEq]
  refine W_cnd rfl (fun hb => ?_) (fun hb => W_skip ?_)
  · refine W_seq (W_reg ?_)
    simp only [r63_2, sx, Nat.reduceBEq, Nat.reduceAdd, Nat.reduceLeDiff, reduceCtorEq]
    have ha : a = none := by simpa using hb
    have h0 : css = [] := by
      cases css with
      | nil => rfl
      | cons x r => obtain ⟨b, o, q, _⟩ := hrow (by simp); rw [ha] at q; cases q
    subst h0
    refine W_ret (RetQ.out rfl trivial ⟨rfl, [], rfl, ⟨none, 0, rfl, by simp, by simp, fun q => absurd rfl q, hlen⟩, 0, ⟨by simp, .inl ⟨rfl, rfl, rfl⟩⟩⟩)
  refine W_seq (W_reg ?_)
  simp only [r63_3, r63_3a, r63_3b, r63_3c, sx, Nat.reduceBEq, Nat.reduceAdd, Nat.reduceLeDiff, reduceCtorEq]
  refine .inr fun blk => ?_
  refine ⟨0, [], [], css.flatten, List.Perm.refl _, flat_len hlen, fun hp => ?_, all1_flat h1, by unfold maxN at hmax; omega, by unfold maxN at hmax; omega, fun v' _ => ?_⟩
  · obtain ⟨b, o, q1, q2⟩ := hrow (by intro q; subst q; simp at hp)
    exact ⟨b, o, q1, q2⟩
  simp only [sx, Nat.reduceBEq, Nat.reduceAdd, Nat.reduceLeDiff, reduceCtorEq]
  refine W_some fun w i => ?_
  obtain ⟨bs, hb2, i2⟩ := Row_split (L := []) (by simpa [props] using i)
  refine ⟨[], ownB bs, _, by simpa [props] using i2, ?_⟩
  refine W_ret (RetQ.out rfl trivial ⟨rfl, bs, rfl, SlC_rowB (by simpa using hb2) hmax hlen, _, by simpa using hb2⟩)
theorem clone103 {v : Value} {css : List (List Value)} {u : Mem} (hv : SlC (MU u) 5 v css) (h1 : ∀ cs ∈ css, all1 cs) : Fn Tryz.prog 103 [v] [] u (CloneQ 5 u css) := by
  obtain ⟨a, c, rfl, hmax, hcap, hrow, hlen⟩ := hv
  refine fn103 fun cx hu => ?_
  refine W_seq (W_reg ?_)
  simp only [r103_0, sx, Nat.reduceBEq, Nat.reduceAdd, Nat.reduceLeDiff, reduceCtorEq]
  refine W_seq ?_
  refine W_seq (W_reg ?_)
  simp only [r103_1, sx, Nat.reduceBEq, Nat.reduceAdd, Nat.reduceLeDiff, reduceCtorEq]
  refine W_cnd rfl (fun hb => ?_) (fun hb => W_skip ?_)
  · refine W_seq (W_reg ?_)
    simp only [r103_2, sx, Nat.reduceBEq, Nat.reduceAdd, Nat.reduceLeDiff, reduceCtorEq]
    have ha : a = none := by simpa using hb
    have h0 : css = [] := by
      cases css with
      | nil => rfl
      | cons x r => obtain ⟨b, o, q, _⟩ := hrow (by simp); rw [ha] at q; cases q
    subst h0
    refine W_ret (RetQ.out rfl trivial ⟨rfl, [], rfl, ⟨none, 0, rfl, by simp, by simp, fun q => absurd rfl q, hlen⟩, 0, ⟨by simp, .inl ⟨rfl, rfl, rfl⟩⟩⟩)
  refine W_seq (W_reg ?_)
  simp only [r103_3, r103_3a, r103_3b, r103_3c, sx, Nat.reduceBEq, Nat.reduceAdd, Nat.reduceLeDiff, reduceCtorEq]
  refine .inr fun blk => ?_
  refine ⟨0, [], [], css.flatten, List.Perm.refl _, flat_len hlen, fun hp => ?_, all1_flat h1, by unfold maxN at hmax; omega, by unfold maxN at hmax; omega, fun v' _ => ?_⟩
  · obtain ⟨b, o, q1, q2⟩ := hrow (by intro q; subst q; simp at hp)
    exact ⟨b, o, q1, q2⟩
  simp only [sx, Nat.reduceBEq, Nat.reduceAdd, Nat.reduceLeDiff, reduceCtorEq]
  refine W_some fun w i => ?_
  obtain ⟨bs, hb2, i2⟩ := Row_split (L := []) (by simpa [props] using i)
  refine ⟨[], ownB bs, _, by simpa [props] using i2, ?_⟩
  refine W_ret (RetQ.out rfl trivial ⟨rfl, bs, rfl, SlC_rowB (by simpa using hb2) hmax hlen, _, by simpa using hb2⟩)
theorem clone104 {v : Value} {css : List (List Value)} {u : Mem} (hv : SlC (MU u) 5 v css) (h1 : ∀ cs ∈ css, all1 cs) : Fn Tryz.prog 104 [v] [] u (CloneQ 5 u css) := by
  obtain ⟨a, c, rfl, hmax, hcap, hrow, hlen⟩ := hv
  refine fn104 fun cx hu => ?_
  refine W_seq (W_reg ?_)
  simp only [r104_0, sx, Nat.reduceBEq, Nat.reduceAdd, Nat.reduceLeDiff, reduceCtorEq]
  refine W_seq ?_
  refine W_seq (W_reg ?_)
  simp only [r104_1, sx, Nat.reduceBEq, Nat.reduceAdd, Nat.reduceLeDiff, reduceCtorEq]
  refine W_cnd rfl (fun hb => ?_) (fun hb => W_skip ?_)
  · refine W_seq (W_reg ?_)
    simp only [r104_2, sx, Nat.reduceBEq, Nat.reduceAdd, Nat.reduceLeDiff, reduceCtorEq]
    have ha : a = none := by simpa using hb
    have h0 : css = [] := by
      cases css with
      | nil => rfl
      | cons x r => obtain ⟨b, o, q, _⟩ := hrow (by simp); rw [ha] at q; cases q
    subst h0
    refine W_ret (RetQ.out rfl trivial ⟨rfl, [], rfl, ⟨none, 0, rfl, by simp, by simp, fun q => absurd rfl q, hlen⟩, 0, ⟨by simp, .inl ⟨rfl, rfl, rfl⟩⟩⟩)
  refine W_seq (W_reg ?_)
  simp only [r104_3, r104_3a, r104_3b, r104_3c, sx, Nat.reduceBEq, Nat.reduceAdd, Nat.reduceLeDiff, reduceCtorEq]
  refine .inr fun blk => ?_
  refine ⟨0, [], [], css.flatten, List.Perm.refl _, flat_len hlen, fun hp => ?_, all1_flat h1, by unfold maxN at hmax; omega, by unfold maxN at hmax; omega, fun v' _ => ?_⟩
  · obtain ⟨b, o, q1, q2⟩ := hrow (by intro q; subst q; simp at hp)
    exact ⟨b, o, q1, q2⟩
  simp only [sx, Nat.reduceBEq, Nat.reduceAdd, Nat.reduceLeDiff, reduceCtorEq]
  refine W_some fun w i => ?_
  obtain ⟨bs, hb2, i2⟩ := Row_split (L := []) (by simpa [props] using i)
  refine ⟨[], ownB bs, _, by simpa [props] using i2, ?_⟩
  refine W_ret (RetQ.out rfl trivial ⟨rfl, bs, rfl, SlC_rowB (by simpa using hb2) hmax hlen, _, by simpa using hb2⟩)
theorem clone105 {v : Value} {css : List (List Value)} {u : Mem} (hv : SlC (MU u) 12 v css) (h1 : ∀ cs ∈ css, all1 cs) : Fn Tryz.prog 105 [v] [] u (CloneQ 12 u css) := by
  obtain ⟨a, c, rfl, hmax, hcap, hrow, hlen⟩ := hv
  refine fn105 fun cx hu => ?_
  refine W_seq (W_reg ?_)
  simp only [r105_0, sx, Nat.reduceBEq, Nat.reduceAdd, Nat.reduceLeDiff, reduceCtorEq]
  refine W_seq ?_
  refine W_seq (W_reg ?_)
  simp only [r105_1, sx, Nat.reduceBEq, Nat.reduceAdd, Nat.reduceLeDiff, reduceCtorEq]
  refine W_cnd rfl (fun hb => ?_) (fun hb => W_skip ?_)
  · refine W_seq (W_reg ?_)
    simp only [r105_2, sx, Nat.reduceBEq, Nat.reduceAdd, Nat.reduceLeDiff, reduceCtorEq]
    have ha : a = none := by simpa using hb
    have h0 : css = [] := by
      cases css with
      | nil => rfl
      | cons x r => obtain ⟨b, o, q, _⟩ := hrow (by simp); rw [ha] at q; cases q
    subst h0
    refine W_ret (RetQ.out rfl trivial ⟨rfl, [], rfl, ⟨none, 0, rfl, by simp, by simp, fun q => absurd rfl q, hlen⟩, 0, ⟨by simp, .inl ⟨rfl, rfl, rfl⟩⟩⟩)
  refine W_seq (W_reg ?_)
  simp only [r105_3, r105_3a, r105_3b, r105_3c, sx, Nat.reduceBEq, Nat.reduceAdd, Nat.reduceLeDiff, reduceCtorEq]
  refine .inr fun blk => ?_
  refine ⟨0, [], [], css.flatten, List.Perm.refl _, flat_len hlen, fun hp => ?_, all1_flat h1, by unfold maxN at hmax; omega, by unfold maxN at hmax; omega, fun v' _ => ?_⟩
  · obtain ⟨b, o, q1, q2⟩ := hrow (by intro q; subst q; simp at hp)
    exact ⟨b, o, q1, q2⟩
  simp only [sx, Nat.reduceBEq, Nat.reduceAdd, Nat.reduceLeDiff, reduceCtorEq]
  refine W_some fun w i => ?_
  obtain ⟨bs, hb2, i2⟩ := Row_split (L := []) (by simpa [props] using i)
  refine ⟨[], ownB bs, _, by simpa [props] using i2, ?_⟩
  refine W_ret (RetQ.out rfl trivial ⟨rfl, bs, rfl, SlC_rowB (by simpa using hb2) hmax hlen, _, by simpa using hb2⟩)
theorem clone106 {v : Value} {css : List (List Value)} {u : Mem} (hv : SlC (MU u) 5 v css) (h1 : ∀ cs ∈ css, all1 cs) : Fn Tryz.prog 106 [v] [] u (CloneQ 5 u css) := by
  obtain ⟨a, c, rfl, hmax, hcap, hrow, hlen⟩ := hv
  refine fn106 fun cx hu => ?_
  refine W_seq (W_reg ?_)
  simp only [r106_0, sx, Nat.reduceBEq, Nat.reduceAdd, Nat.reduceLeDiff, reduceCtorEq]
  refine W_seq ?_
  refine W_seq (W_reg ?_)
  simp only [r106_1, sx, Nat.reduceBEq, Nat.reduceAdd, Nat.reduceLeDiff, reduceCtorEq]
  refine W_cnd rfl (fun hb => ?_) (fun hb => W_skip ?_)
  · refine W_seq (W_reg ?_)
    simp only [r106_2, sx, Nat.reduceBEq, Nat.reduceAdd, Nat.reduceLeDiff, reduceCtorEq]
    have ha : a = none := by simpa using hb
    have h0 : css = [] := by
      cases css with
      | nil => rfl
      | cons x r => obtain ⟨b, o, q, _⟩ := hrow (by simp); rw [ha] at q; cases q
    subst h0
    refine W_ret (RetQ.out rfl trivial ⟨rfl, [], rfl, ⟨none, 0, rfl, by simp, by simp, fun q => absurd rfl q, hlen⟩, 0, ⟨by simp, .inl ⟨rfl, rfl, rfl⟩⟩⟩)
  refine W_seq (W_reg ?_)
  simp only [r106_3, r106_3a, r106_3b, r106_3c, sx, Nat.reduceBEq, Nat.reduceAdd, Nat.reduceLeDiff, reduceCtorEq]
  refine .inr fun blk => ?_
  refine ⟨0, [], [], css.flatten, List.Perm.refl _, flat_len hlen, fun hp => ?_, all1_flat h1, by unfold maxN at hmax; omega, by unfold maxN at hmax; omega, fun v' _ => ?_⟩
  · obtain ⟨b, o, q1, q2⟩ := hrow (by intro q; subst q; simp at hp)
    exact ⟨b, o, q1, q2⟩
  simp only [sx, Nat.reduceBEq, Nat.reduceAdd, Nat.reduceLeDiff, reduceCtorEq]
  refine W_some fun w i => ?_
  obtain ⟨bs, hb2, i2⟩ := Row_split (L := []) (by simpa [props] using i)
  refine ⟨[], ownB bs, _, by simpa [props] using i2, ?_⟩
  refine W_ret (RetQ.out rfl trivial ⟨rfl, bs, rfl, SlC_rowB (by simpa using hb2) hmax hlen, _, by simpa using hb2⟩)
theorem clone107 {v : Value} {css : List (List Value)} {u : Mem} (hv : SlC (MU u) 4 v css) (h1 : ∀ cs ∈ css, all1 cs) : Fn Tryz.prog 107 [v] [] u (CloneQ 4 u css) := by
  obtain ⟨a, c, rfl, hmax, hcap, hrow, hlen⟩ := hv
  refine fn107 fun cx hu => ?_
  refine W_seq (W_reg ?_)
  simp only [r107_0, sx, Nat.reduceBEq, Nat.reduceAdd, Nat.reduceLeDiff, reduceCtorEq]
  refine W_seq ?_
  refine W_seq (W_reg ?_)
  simp only [r107_1, sx, Nat.reduceBEq, Nat.reduceAdd, Nat.reduceLeDiff, reduceCtorEq]
  refine W_cnd rfl (fun hb => ?_) (fun hb => W_skip ?_)
  · refine W_seq (W_reg ?_)
    simp only [r107_2, sx, Nat.reduceBEq, Nat.reduceAdd, Nat.reduceLeDiff, reduceCtorEq]
    have ha : a = none := by simpa using hb
    have h0 : css = [] := by
      cases css with
      | nil => rfl
      | cons x r => obtain ⟨b, o, q, _⟩ := hrow (by simp); rw [ha] at q; cases q
    subst h0
    refine W_ret (RetQ.out rfl trivial ⟨rfl, [], rfl, ⟨none, 0, rfl, by simp, by simp, fun q => absurd rfl q, hlen⟩, 0, ⟨by simp, .inl ⟨rfl, rfl, rfl⟩⟩⟩)
  refine W_seq (W_reg ?_)
  simp only [r107_3, r107_3a, r107_3b, r107_3c, sx, Nat.reduceBEq, Nat.reduceAdd, Nat.reduceLeDiff, reduceCtorEq]
  refine .inr fun blk => ?_
  refine ⟨0, [], [], css.flatten, List.Perm.refl _, flat_len hlen, fun hp => ?_, all1_flat h1, by unfold maxN at hmax; omega, by unfold maxN at hmax; omega, fun v' _ => ?_⟩
  · obtain ⟨b, o, q1, q2⟩ := hrow (by intro q; subst q; simp at hp)
    exact ⟨b, o, q1, q2⟩
  simp only [sx, Nat.reduceBEq, Nat.reduceAdd, Nat.reduceLeDiff, reduceCtorEq]
  refine W_some fun w i => ?_
  obtain ⟨bs, hb2, i2⟩ := Row_split (L := []) (by simpa [props] using i)
  refine ⟨[], ownB bs, _, by simpa [props] using i2, ?_⟩
  refine W_ret (RetQ.out rfl trivial ⟨rfl, bs, rfl, SlC_rowB (by simpa using hb2) hmax hlen, _, by simpa using hb2⟩)
end Go.Proofs.YtenmmfkgopffgaaGreatDoor

set_option maxRecDepth 4000
namespace Go.Proofs.YtenmmfkgopffgaaGreatDoor
open Go

theorem all1_map {α : Type} {f : α → List Value} (h : ∀ x, all1 (f x)) (l : List α) : ∀ cs ∈ l.map f, all1 cs := by
  intro cs hcs
  obtain ⟨x, _, rfl⟩ := List.mem_map.1 hcs
  exact h x
theorem all1_i1 (x : Int) : all1 (i1 x) := ⟨rfl, trivial⟩
theorem all1_voice (x : Voice) : all1 (voiceC x) := ⟨rfl, rfl, rfl, rfl, trivial⟩
theorem all1_lot (x : Lot) : all1 (lotC x) := ⟨rfl, rfl, rfl, rfl, rfl, rfl, rfl, trivial⟩
theorem all1_void (x : Void) : all1 (voidC x) := ⟨rfl, rfl, trivial⟩
theorem all1_paid (x : Paid) : all1 (paidC x) := ⟨rfl, rfl, rfl, rfl, rfl, trivial⟩
theorem all1_bid (x : Bid) : all1 (bidC x) := ⟨rfl, rfl, rfl, rfl, trivial⟩
theorem all1_member {M : MP} {cs : List Value} {x : Member} (h : memberR M cs x) : all1 cs := by obtain ⟨v, rfl, h⟩ := h; exact ⟨rfl, rfl, h.one, rfl, rfl, trivial⟩
theorem all1_proposal {M : MP} {cs : List Value} {x : Proposal} (h : proposalR M cs x) : all1 cs := by obtain ⟨v, rfl, h⟩ := h; exact ⟨rfl, rfl, rfl, h.one, rfl, trivial⟩
theorem all1_claim {M : MP} {cs : List Value} {x : Claim} (h : claimR M cs x) : all1 cs := by obtain ⟨v, w, rfl, h, k⟩ := h; exact ⟨rfl, rfl, rfl, rfl, rfl, rfl, rfl, h.one, k.one, rfl, rfl, rfl, trivial⟩
theorem all1_circle {M : MP} {cs : List Value} {x : Circle} (h : circleR M cs x) : all1 cs := by
  obtain ⟨vm, vp, vb, vt, vo, vu, vq, vc, rfl, ht, hm, hp, hb_, htu, hpo, hou, hq, hcl⟩ := h
  exact ⟨rfl, rfl, rfl, rfl, rfl, hm.one, hp.one, hb_.one, htu.one, hpo.one, hou.one, hq.one, hcl.one, rfl, rfl, trivial⟩
theorem all1_rel {α : Type} {R : List Value → α → Prop} (h : ∀ {cs x}, R cs x → all1 cs) : ∀ {css : List (List Value)} {xs : List α}, All2 R css xs → ∀ cs ∈ css, all1 cs
  | [], _, _, cs, hcs => by cases hcs
  | c :: r, [], h2, _, _ => h2.elim
  | c :: r, x :: s, h2, cs, hcs => by
    rcases List.mem_cons.1 hcs with rfl | hcs
    · exact h h2.1
    · exact all1_rel h h2.2 cs hcs
def CopyQ {α : Type} (R : MP → List Value → α → Prop) (x : α) (u : Mem) (v : Value) (own' : List HP) (u' : Mem) : Prop := u' = u ∧ ∃ cs bs, own' = ownB bs ∧ v = .agg cs.toArray ∧ R (MB bs) cs x
theorem copiedMember {cs : List Value} {x : Member} {u : Mem} (hx : memberR (MU u) cs x) : Fn Tryz.prog 62 [.agg cs.toArray] [] u (CopyQ memberR x u) := by
  obtain ⟨v, rfl, hj⟩ := hx
  refine fn62 fun cx hu => ?_
  refine W_seq (W_reg ?_)
  simp only [r62_0, r62_0a, sx, Nat.reduceBEq, Nat.reduceAdd, Nat.reduceLeDiff, reduceCtorEq]
  intro b1 b2
  refine W_seq (W_reg ?_)
  simp only [r62_1, r62_1a, sx, Nat.reduceBEq, Nat.reduceAdd, Nat.reduceLeDiff, reduceCtorEq]
  refine CallW.u (clone53 hj (all1_map all1_i1 _)) ?_
  rintro v2 own' u' ⟨rfl, bs, rfl, hs, _⟩ _
  obtain ⟨sa, sn, sc, rfl⟩ := hs.form
  simp only [r62_1b, r62_1c, sx, Nat.reduceBEq, Nat.reduceAdd, Nat.reduceLeDiff, reduceCtorEq]
  refine W_seq (W_reg ?_)
  simp only [r62_2, r62_2a, sx, Nat.reduceBEq, Nat.reduceAdd, Nat.reduceLeDiff, reduceCtorEq]
  refine W_ret (RetQ.out rfl ⟨rfl, rfl⟩ ⟨rfl, _, bs, by simp, rfl, _, rfl, hs⟩)
theorem copiedClaim {cs : List Value} {x : Claim} {u : Mem} (hx : claimR (MU u) cs x) : Fn Tryz.prog 64 [.agg cs.toArray] [] u (CopyQ claimR x u) := by
  obtain ⟨v, v', rfl, hj, hj'⟩ := hx
  refine fn64 fun cx hu => ?_
  refine W_seq (W_reg ?_)
  simp only [r64_0, r64_0a, sx, Nat.reduceBEq, Nat.reduceAdd, Nat.reduceLeDiff, reduceCtorEq]
  intro b1 b2
  refine W_seq (W_drw (drawOK mixedP) ?_)
  simp only [WSD, A.wpD, r64_1, r64_1a, sx, Nat.reduceBEq, Nat.reduceAdd, Nat.reduceLeDiff, reduceCtorEq]
  refine CallWD.u (clone53 hj (all1_map all1_i1 _)) ?_
  rintro v2 own' u' ⟨rfl, bs, rfl, hs, _⟩ _
  obtain ⟨sa, sn, sc, rfl⟩ := hs.form
  simp only [r64_1b, r64_1c, WSD, A.wpD, sx, Nat.reduceBEq, Nat.reduceAdd, Nat.reduceLeDiff, reduceCtorEq]
  refine CallWD.u (clone53 hj' (all1_map all1_i1 _)) ?_
  rintro v3 own' u' ⟨rfl, bs2, rfl, hs2, _⟩ _
  obtain ⟨ta, tn, tc, rfl⟩ := hs2.form
  simp only [r64_1d, r64_1e, r64_1f, WSD, A.wpD, sx, Nat.reduceBEq, Nat.reduceAdd, Nat.reduceLeDiff, reduceCtorEq]
  refine W_seq (W_reg ?_)
  simp only [r64_2, r64_2a, sx, Nat.reduceBEq, Nat.reduceAdd, Nat.reduceLeDiff, reduceCtorEq]
  refine W_ret (RetQ.out rfl ⟨rfl, rfl⟩ ⟨rfl, _, bs2 ++ bs, by simp [ownB_app], rfl, _, _, rfl, hs.mono mb_right, hs2.mono mb_left⟩)
end Go.Proofs.YtenmmfkgopffgaaGreatDoor
