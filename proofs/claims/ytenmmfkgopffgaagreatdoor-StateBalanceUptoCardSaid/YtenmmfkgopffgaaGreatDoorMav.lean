/- Part 22 of the proofs that the program's StateBack and StateBalance return true (texts Sb Sc Wc Wd joined): what its functions compute. -/
import Derived.Test.YtenmmfkgopffgaaGreatDoorMak
import Derived.Test.YtenmmfkgopffgaaGreatDoorMal
import Derived.Test.YtenmmfkgopffgaaGreatDoorMaq
import Derived.Test.YtenmmfkgopffgaaGreatDoorMap
import Derived.Test.YtenmmfkgopffgaaGreatDoorMau
import Derived.Shelf.SlSortCmp.NoneTotal
import Derived.Test.YtenmmfkgopffgaaGreatDoorMao
set_option linter.unusedVariables false
set_option linter.unusedSimpArgs false
set_option linter.unnecessarySimpa false
namespace Go.Proofs.YtenmmfkgopffgaaGreatDoor
open Go Go.Shelf Go.RowKit Go.Lib Go.Sort

instance : Inhabited Span := ⟨⟨0, 0, 0⟩⟩
def cmpSpan (a b : Span) : Int := orI [cmpI a.mark b.mark, cmpI a.from_ b.from_]
def ltS (a b : Span) : Prop := a.mark < b.mark ∨ (a.mark = b.mark ∧ a.from_ < b.from_)
theorem cmpI_cases (a b : Int) : (a < b ∧ cmpI a b = -1) ∨ (b < a ∧ cmpI a b = 1) ∨ (a = b ∧ cmpI a b = 0) := by
  unfold cmpI
  by_cases h : a < b
  · left; simp [h]
  · by_cases h2 : b < a
    · right; left; simp [h, h2]
    · right; right; simp [h, h2]; omega
theorem cmpSpan_lt (a b : Span) : ltOf cmpSpan a b = true ↔ ltS a b := by
  unfold ltOf cmpSpan ltS
  rcases cmpI_cases a.mark b.mark with ⟨h1, h2⟩ | ⟨h1, h2⟩ | ⟨h1, h2⟩
  · rw [h2]
    have : orI [-1, cmpI a.from_ b.from_] = -1 := rfl
    simp [this]; omega
  · rw [h2]
    have : orI [1, cmpI a.from_ b.from_] = 1 := rfl
    simp [this]; omega
  · rw [h2]
    rcases cmpI_cases a.from_ b.from_ with ⟨h3, h4⟩ | ⟨h3, h4⟩ | ⟨h3, h4⟩
    · rw [h4]
      have : orI [0, -1] = -1 := rfl
      simp [this]; omega
    · rw [h4]
      have : orI [0, 1] = 1 := rfl
      simp [this]; omega
    · rw [h4]
      have : orI [0, 0] = 0 := rfl
      simp [this]; omega
theorem ltOf_false (a b : Span) : ltOf cmpSpan a b = false ↔ ¬ ltS a b := by
  rw [← cmpSpan_lt]; simp
theorem swoSpan : SWO (ltOf cmpSpan) where
  irrefl x := by rw [ltOf_false]; unfold ltS; omega
  trans x y z h1 h2 := by rw [cmpSpan_lt] at *; unfold ltS at *; omega
  ntrans x y z h1 h2 := by rw [ltOf_false] at *; unfold ltS at *; omega
theorem sorted_unique {xs : List Span} : ∀ {ys : List Span}, xs.Pairwise ltS → ys.Perm xs → ys.Pairwise (fun a b => ¬ ltS b a) → ys = xs := by
  induction xs with
  | nil => intro ys _ h _; exact List.Perm.eq_nil h
  | cons x xs ih =>
    intro ys hx hp hy
    rw [List.pairwise_cons] at hx
    match ys, hp, hy with
    | [], hp, _ => exact absurd hp.length_eq (by simp)
    | y :: ys, hp, hy =>
      rw [List.pairwise_cons] at hy
      have hxy : y = x := by
        have h1 : x ∈ y :: ys := hp.mem_iff.2 (by simp)
        have h2 : y ∈ x :: xs := hp.mem_iff.1 (by simp)
        rcases List.mem_cons.1 h1 with q | q
        · exact q.symm
        · rcases List.mem_cons.1 h2 with r | r
          · exact r
          · exact absurd (hx.1 y r) (hy.1 x q)
      subst hxy
      rw [ih hx.2 (List.perm_cons _ |>.1 hp) hy.2]
theorem en122 : Ent Tryz.prog 122 := ⟨_, Tryz.func122, by kernel_rfl, by kernel_rfl⟩
theorem spanC_flat_at {xs : List Span} : ∀ (t : Nat), t < xs.length * 3 → ((xs.map spanC).flatten)[t]? = some ((spanC xs.toArray[t / 3]!)[t % 3]!) := by
  intro t ht
  have hi : t / 3 < xs.length := by omega
  have h1 := flat_at (css := xs.map spanC) (k := 3) (i := t / 3) (by simp [spanC]) (by simpa using hi)
  rw [List.getElem_map] at h1
  have h2 : ((xs.map spanC).flatten)[t]? = (((xs.map spanC).flatten.drop (t / 3 * 3)).take 3)[t % 3]? := by
    rw [List.getElem?_take, if_pos (by omega), List.getElem?_drop]
    congr 1; omega
  rw [h2, h1.1]
  have h3 : xs.toArray[t / 3]! = xs[t / 3] := by
    rw [getElem!_pos _ _ (by simpa using hi)]; simp
  rw [h3]
  have hm : t % 3 < 3 := Nat.mod_lt _ (by omega)
  generalize t % 3 = j at hm
  match j, hm with
  | 0, _ => rfl
  | 1, _ => rfl
  | 2, _ => rfl
theorem sort_q {T : TypeId} {v : Value} {xs : List Span} {bs : BS} {u : Mem} (hrow : rowB T 3 v xs.length (xs.map spanC).flatten bs) (hm : mpl (MB bs) (MU u)) (hs : xs.Pairwise ltS) (hn : xs.length ≤ maxN) : QFn Tryz.prog 122 [v, .func (.func 123) #[] #[]] u (.tuple #[]) := by
  unfold maxN at hn
  refine QFn.of_same en122 fun w hu => ?_
  obtain ⟨hl, ⟨rfl, h0, rfl⟩ | ⟨g, cap, cur, rfl, rfl, hnc, hcm, hcs, htake⟩⟩ := hrow
  · refine (AnyF.slices_SortFunc_none { Tryz.sortSpans with } none 0 _ w).mono ?_
    rintro e w' ⟨rfl, rfl⟩
    exact ⟨rfl, Below.refl _ _⟩
  · have hg : w.heap[g]? = some (.cells cur T (0, 0)) := hu _ _ (hm _ _ (by simp [MB]))
    have hlt : g < w.heap.size := (Array.getElem?_eq_some_iff.1 hg).1
    have hH : HoldsK spanC 3 w g 0 xs.toArray := by
      intro t ht
      rw [size_flatK] at ht
      have ht : t < xs.length * 3 := by simpa using ht
      refine ⟨?_, by simp [World.frozen?, hg]⟩
      rw [get_flatK _ _ _ _ (by simpa using ht), Nat.zero_add, cell_of_row w g t cur T (0, 0) hg]
      have h1 := spanC_flat_at (xs := xs) t ht
      rw [← htake, List.getElem?_take, if_pos ht] at h1
      simpa using h1
    have eg : ∀ args w, (callFunc 123 args).run Tryz.prog w = .ok (.enter 123 args) w := enters_of Tryz.func123 (by kernel_rfl) rfl
    have hcmp : CmpLays Tryz.prog 123 #[] spanC 3 cmpSpan g 0 xs.toArray.size w := fun m os dk _ x y => cmpSpan_calls _ _ _ _ _ _ _
    have hcon := AnyQ.slices_SortFunc Tryz.sortSpans 3 Tryz.isAgg38 Tryz.sizeOf38 spanC (fun _ => rfl) (fun x v hv => by simp [spanC] at hv; rcases hv with rfl | rfl | rfl <;> rfl) cmpSpan swoSpan 123 #[] g 0 cap xs.toArray w eg hcmp hH hlt (by simp; omega)
    have hsz : xs.toArray.size = xs.length := by simp
    rw [hsz] at hcon
    refine hcon.mono ?_
    rintro e w' ⟨rfl, d', n, os, ⟨hps, hpo, hpp⟩, hso, rfl⟩
    refine ⟨rfl, ?_⟩
    have hd : d' = xs.toArray := by
      have hps : d'.size = xs.length := by simpa using hps
      have e1 : d'.extract 0 xs.length = d' := by rw [← hps]; simp
      have e2 : xs.toArray.extract 0 xs.length = xs.toArray := by rw [← hsz]; simp
      rw [e1, e2] at hpp
      have := sorted_unique hs hpp (List.pairwise_iff_getElem.2 fun i j hi hj hij => by
        have hj' : j < d'.size := by simpa using hj
        have := hso i j (Nat.zero_le _) hij (by omega)
        rw [ltOf_false, getElem!_pos d' j hj', getElem!_pos d' i (by omega)] at this
        simpa using this)
      rw [← this]
    subst hd
    unfold sortWorldK
    have hH' : HoldsK spanC 3 (Sort.ahead w n) g 0 xs.toArray := hH
    rw [putRowK_self spanC 3 _ g 0 _ hH']
    refine ⟨rfl, rfl, rfl, ?_, fun b hb => ?_⟩
    · rw [Sort.size_grow]; exact Nat.le_add_right _ _
    · show (w.heap ++ os)[b]? = _
      rw [Array.getElem?_append_left hb]
end Go.Proofs.YtenmmfkgopffgaaGreatDoor

set_option maxRecDepth 4000
set_option linter.unnecessarySimpa false
namespace Go.Proofs.YtenmmfkgopffgaaGreatDoor
open Go

def apart (a b : Span) : Prop := a.mark < b.mark ∨ (a.mark = b.mark ∧ a.to_ ≤ b.from_)
def mergeS (out : List Span) (s : Span) : List Span := match out.getLast? with
  | some l => bif (l.mark == s.mark) && decide (l.to_ ≥ s.from_) then out.dropLast ++ [⟨l.mark, l.from_, if l.to_ < s.to_ then s.to_ else l.to_⟩] else out ++ [s]
  | none => out ++ [s]
def normS (xs : List Span) : List Span := xs.foldl mergeS []
def cntS : List Span → Int
  | [] => 0
  | s :: r => (s.to_ - s.from_) + cntS r
theorem cntS_app (a b : List Span) : cntS (a ++ b) = cntS a + cntS b := by
  induction a with
  | nil => simp [cntS]
  | cons x r ih => simp only [List.cons_append, cntS, ih]; omega
theorem valid_lt {s : Span} (h : validB s = true) : 0 ≤ s.from_ ∧ s.from_ < s.to_ ∧ s.to_ ≤ 1048576 := by
  unfold validB at h; simp at h; omega
theorem apart_lt {a b : Span} (ha : validB a = true) (h : apart a b) : ltS a b := by
  have := valid_lt ha
  unfold apart at h; unfold ltS; omega
theorem apart_trans {a b c : Span} (hb : validB b = true) (h1 : apart a b) (h2 : apart b c) : apart a c := by
  have := valid_lt hb
  unfold apart at *; omega
structure NI (out pre : List Span) : Prop where
  val : ∀ s ∈ out, validB s = true
  ap : out.Pairwise apart
  cnt : cntS out = cntS pre
  len : out.length ≤ pre.length
  link : (pre = [] ∧ out = []) ∨ ∃ p l q o, pre = p ++ [l] ∧ out = q ++ [o] ∧ o.mark = l.mark ∧ o.to_ = l.to_
theorem mergeS_snoc (q : List Span) (o s : Span) : mergeS (q ++ [o]) s = bif (o.mark == s.mark) && decide (o.to_ ≥ s.from_) then q ++ [⟨o.mark, o.from_, if o.to_ < s.to_ then s.to_ else o.to_⟩] else (q ++ [o]) ++ [s] := by
  unfold mergeS
  simp
theorem NI.step {out pre : List Span} {s : Span} (h : NI out pre) (hs : validB s = true) (ha : ∀ l ∈ pre, apart l s) : NI (mergeS out s) (pre ++ [s]) := by
  obtain ⟨hv, hp, hc, hle, hl⟩ := h
  have vs := valid_lt hs
  rcases hl with ⟨rfl, rfl⟩ | ⟨p, l, q, o, rfl, rfl, hm, ht⟩
  · refine ⟨fun x hx => ?_, by simp [mergeS], by simp [mergeS], by simp [mergeS], .inr ⟨[], s, [], s, rfl, rfl, rfl, rfl⟩⟩
    simp [mergeS] at hx; subst hx; exact hs
  · have hls := ha l (by simp)
    have ho := hv o (by simp)
    have vo := valid_lt ho
    rw [List.pairwise_append] at hp
    obtain ⟨hq, _, hqo⟩ := hp
    rw [mergeS_snoc]
    cases hcond : (o.mark == s.mark) && decide (o.to_ ≥ s.from_) with
    | true =>
      simp at hcond
      have hto : o.to_ = s.from_ := by unfold apart at hls; omega
      have e : (if o.to_ < s.to_ then s.to_ else o.to_) = s.to_ := if_pos (by omega)
      rw [e]
      simp only [cond_true]
      refine ⟨fun x hx => ?_, ?_, ?_, ?_, .inr ⟨p ++ [l], s, q, _, by simp, rfl, by simp [hcond.1], rfl⟩⟩
      · rcases List.mem_append.1 hx with hx | hx
        · exact hv x (by simp [hx])
        · simp at hx; subst hx
          unfold validB at ho hs ⊢
          simp only [Bool.and_eq_true, decide_eq_true_eq] at ho hs ⊢
          exact ⟨⟨⟨ho.1.1.1, by omega⟩, by omega⟩, by omega⟩
      · rw [List.pairwise_append]
        refine ⟨hq, by simp, fun x hx y hy => ?_⟩
        simp at hy; subst hy
        have := hqo x hx o (by simp)
        unfold apart at this ⊢
        simpa using this
      · rw [cntS_app] at hc ⊢
        rw [cntS_app (p ++ [l])]
        simp only [cntS] at hc ⊢
        omega
      · simp at hle ⊢; omega
    | false =>
      simp only [cond_false]
      refine ⟨fun x hx => ?_, ?_, ?_, ?_, .inr ⟨p ++ [l], s, q ++ [o], s, rfl, rfl, rfl, rfl⟩⟩
      · rcases List.mem_append.1 hx with hx | hx
        · exact hv x hx
        · simp at hx; subst hx; exact hs
      · have hos : apart o s := by unfold apart at hls ⊢; omega
        rw [List.pairwise_append, List.pairwise_append]
        refine ⟨⟨hq, by simp, hqo⟩, by simp, fun x hx y hy => ?_⟩
        simp at hy; subst hy
        rcases List.mem_append.1 hx with hx | hx
        · exact apart_trans ho (hqo x hx o (by simp)) hos
        · simp at hx; subst hx; exact hos
      · rw [cntS_app (q ++ [o]), cntS_app (p ++ [l]), hc]
      · simp at hle ⊢; omega
theorem norm_ni : ∀ (xs out pre : List Span), NI out pre → (∀ s ∈ xs, validB s = true) → (pre ++ xs).Pairwise apart → NI (xs.foldl mergeS out) (pre ++ xs)
  | [], out, pre, h, _, _ => by simpa using h
  | x :: xs, out, pre, h, hv, hp => by
    have h1 := h.step (s := x) (hv x (by simp)) (fun l hl => (List.pairwise_append.1 hp).2.2 l hl x (by simp))
    have := norm_ni xs _ (pre ++ [x]) h1 (fun s hs => hv s (by simp [hs])) (by simpa using hp)
    simpa using this
theorem norm_of {xs : List Span} (hv : ∀ s ∈ xs, validB s = true) (hp : xs.Pairwise apart) : NI (normS xs) xs := by
  have := norm_ni xs [] [] ⟨by simp, by simp, rfl, by simp, .inl ⟨rfl, rfl⟩⟩ hv (by simpa using hp)
  simpa [normS] using this
theorem normS_take {xs : List Span} {i : Nat} (h : i < xs.length) : normS (xs.take (i + 1)) = mergeS (normS (xs.take i)) xs[i] := by
  unfold normS
  rw [List.take_add_one, List.getElem?_eq_getElem h, List.foldl_append]; rfl
theorem mergeS_len (out : List Span) (s : Span) : (mergeS out s).length ≤ out.length + 1 := by
  rcases List.eq_nil_or_concat out with rfl | ⟨q, o, rfl⟩
  · simp [mergeS]
  · rw [List.concat_eq_append, mergeS_snoc]
    cases (o.mark == s.mark) && decide (o.to_ ≥ s.from_) <;> simp
theorem normS_len (xs : List Span) : (normS xs).length ≤ xs.length := by
  unfold normS
  have : ∀ (xs out : List Span), (xs.foldl mergeS out).length ≤ out.length + xs.length := by
    intro xs
    induction xs with
    | nil => intro out; simp
    | cons x r ih =>
      intro out
      have h1 := ih (mergeS out x)
      have h2 := mergeS_len out x
      simp only [List.foldl_cons, List.length_cons]; omega
  have := this xs []
  simpa using this
theorem at3 (Q tail : List Value) (a b c : Value) : ((Q ++ a :: b :: c :: tail).drop (Q.length + 0)).take 1 = [a] ∧ ((Q ++ a :: b :: c :: tail).drop (Q.length + 2)).take 1 = [c] := by
  constructor
  · rw [Nat.add_zero, List.drop_left]; rfl
  · rw [← List.drop_drop, List.drop_left]; rfl
theorem set3 (Q tail : List Value) (a b c x : Value) : setAt (Q ++ a :: b :: c :: tail) (Q.length + 2) [x] = Q ++ a :: b :: x :: tail := by
  induction Q with
  | nil => show a :: b :: setAt (c :: tail) 0 [x] = _; simp [setAt]
  | cons y r ih => simp only [List.cons_append, List.length_cons]; rw [show r.length + 1 + 2 = (r.length + 2) + 1 from by omega, setAt, ih]
theorem spanFlat_len (q : List Span) : (q.map spanC).flatten.length = q.length * 3 := by
  rw [flat_len (k := 3) (by simp [spanC])]; simp
theorem W_rowbox {P : Program} {D : Nat → Array Oper → List Nat → List I0 → List Nat → Bool} {n : Nat} {cx : Ctx} {Q : PQ} {e : Env} {bx : List Box} {own : List HP} {u : Mem} {s : SC} {E k m : Nat} {a : Option Addr} {cap : Nat} {xs : List Value} (hm : 0 < m)
    (h : ∀ g cur, a = some ⟨g, 0, none⟩ → m ≤ cap → cap ≤ maxLen → cur.length = cap * k → cur.take (m * k) = xs → W P D n cx s Q e (⟨900, g, cur, E⟩ :: bx) own u) : W P D n cx s Q e bx (Row E k (.slice a m cap) m xs :: own) u := by
  refine W_some fun w i => ?_
  obtain ⟨bs, ⟨hl, hb⟩, i1⟩ := Row_split (i.perm (perm_own (List.Perm.refl _)))
  rcases hb with ⟨_, h0, _⟩ | ⟨g, cap', cur, hv, rfl, h1, h2, h3, h4⟩
  · omega
  · injection hv with h5 _ h6
    subst h6
    refine ⟨⟨900, g, cur.toList, E⟩ :: bx, own, u, ?_, h g cur.toList h5 h1 h2 (by simpa using h3) h4⟩
    have : Box.hp ⟨900, g, cur.toList, E⟩ = Blk g (.cells cur E (0, 0)) := by unfold Box.hp; simp
    unfold props
    rw [List.map_cons, this]
    exact i1
theorem W_boxrow {P : Program} {D : Nat → Array Oper → List Nat → List I0 → List Nat → Bool} {n : Nat} {cx : Ctx} {Q : PQ} {e : Env} {bx : List Box} {own : List HP} {u : Mem} {s : SC} {E k m g cap nm : Nat} {cur xs : List Value}
    (h1 : m ≤ cap) (h2 : cap ≤ maxLen) (h3 : cur.length = cap * k) (h4 : cur.take (m * k) = xs)
    (h : W P D n cx s Q e bx (Row E k (.slice (some ⟨g, 0, none⟩) m cap) m xs :: own) u) : W P D n cx s Q e (⟨nm, g, cur, E⟩ :: bx) own u := by
  refine W_gh (fun w i => ?_) h
  have hxl : xs.length = m * k := by rw [← h4, List.length_take, h3]; exact Nat.min_eq_left (Nat.mul_le_mul_right k h1)
  have i1 : Inv cx (Box.hp ⟨nm, g, cur, E⟩ :: (bx.map Box.hp ++ own)) u w := i
  refine (i1.conseq (L' := Row E k (.slice (some ⟨g, 0, none⟩) m cap) m xs :: (bx.map Box.hp ++ own)) ?_).perm (perm_own (List.Perm.refl _)).symm
  rintro h ⟨k1, k2, sp, hb, s⟩
  exact ⟨k1, k2, sp, ⟨hxl, .inr ⟨g, cap, cur.toArray, rfl, hb, h1, h2, by simpa using h3, by simpa using h4⟩⟩, s⟩
theorem clone119 {v : Value} {css : List (List Value)} {u : Mem} (hv : SlC (MU u) 3 v css) (h1 : ∀ cs ∈ css, all1 cs) : Fn Tryz.prog 119 [v] [] u (CloneQ 3 u css) := by
  obtain ⟨a, c, rfl, hmax, hcap, hrow, hlen⟩ := hv
  refine fn119 fun cx hu => ?_
  refine W_seq (W_reg ?_)
  simp only [r119_0, sx, Nat.reduceBEq, Nat.reduceAdd, Nat.reduceLeDiff, reduceCtorEq]
  refine W_seq ?_
  refine W_seq (W_reg ?_)
  simp only [r119_1, sx, Nat.reduceBEq, Nat.reduceAdd, Nat.reduceLeDiff, reduceCtorEq]
  refine W_cnd rfl (fun hb => ?_) (fun hb => W_skip ?_)
  · refine W_seq (W_reg ?_)
    simp only [r119_2, sx, Nat.reduceBEq, Nat.reduceAdd, Nat.reduceLeDiff, reduceCtorEq]
    have ha : a = none := by simpa using hb
    have h0 : css = [] := by
      cases css with
      | nil => rfl
      | cons x r => obtain ⟨b, o, q, _⟩ := hrow (by simp); rw [ha] at q; cases q
    subst h0
    refine W_ret (RetQ.out rfl trivial ⟨rfl, [], rfl, ⟨none, 0, rfl, by simp, by simp, fun q => absurd rfl q, hlen⟩, 0, ⟨by simp, .inl ⟨rfl, rfl, rfl⟩⟩⟩)
  refine W_seq (W_reg ?_)
  simp only [r119_3, r119_3a, r119_3b, r119_3c, sx, Nat.reduceBEq, Nat.reduceAdd, Nat.reduceLeDiff, reduceCtorEq]
  refine .inr fun blk => ?_
  refine ⟨0, [], [], css.flatten, List.Perm.refl _, flat_len hlen, fun hp => ?_, all1_flat h1, by unfold maxN at hmax; omega, by unfold maxN at hmax; omega, fun v' _ => ?_⟩
  · obtain ⟨b, o, q1, q2⟩ := hrow (by intro q; subst q; simp at hp)
    exact ⟨b, o, q1, q2⟩
  simp only [sx, Nat.reduceBEq, Nat.reduceAdd, Nat.reduceLeDiff, reduceCtorEq]
  refine W_some fun w i => ?_
  obtain ⟨bs, hb2, i2⟩ := Row_split (L := []) (by simpa [props] using i)
  refine ⟨[], ownB bs, _, by simpa [props] using i2, ?_⟩
  refine W_ret (RetQ.out rfl trivial ⟨rfl, bs, rfl, SlC_rowB (by simpa using hb2) hmax hlen, _, by simpa using hb2⟩)
theorem all1_span (xs : List Span) : ∀ cs ∈ xs.map spanC, all1 cs := by
  intro cs h
  obtain ⟨s, _, rfl⟩ := List.mem_map.1 h
  exact ⟨rfl, rfl, rfl, trivial⟩
theorem clone119F {v : Value} {xs : List Span} {u : Mem} (hv : SlF 3 spanC (MU u) v xs) : Fn Tryz.prog 119 [v] [] u fun v' own' u' => own' = [] ∧ SlF 3 spanC (MU u') v' xs ∧ ∃ T bs, rowB T 3 v' xs.length (xs.map spanC).flatten bs ∧ mpl (MB bs) (MU u') := by
  have h := clone119 hv (all1_span xs)
  refine Fn.frz (R := fun v' bs => SlC (MB bs) 3 v' (xs.map spanC) ∧ ∃ T, rowB T 3 v' (xs.map spanC).length (xs.map spanC).flatten bs) (h.mono ?_) ?_
  · rintro v' own' u' ⟨rfl, bs, rfl, h1, h2⟩
    exact ⟨rfl, bs, rfl, h1, h2⟩
  · rintro v' bs u' ⟨h1, T, h2⟩ hle hm
    rw [List.length_map] at h2
    exact ⟨rfl, h1.mono hm, T, bs, h2, hm⟩
set_option maxHeartbeats 1000000 in
theorem norm_c {v : Value} {xs : List Span} {u : Mem} (hv : SlF 3 spanC (MU u) v xs) (hval : ∀ s ∈ xs, validB s = true) (hap : xs.Pairwise apart) : Fn Tryz.prog 108 [v] [] u fun v' own' u' => own' = [] ∧ SlF 3 spanC (MU u') v' (normS xs) := by
  have hn : xs.length ≤ maxN := by obtain ⟨_, _, _, h, _⟩ := hv; simpa using h
  have hn' := hn
  unfold maxN at hn'
  refine fn108 fun cx hu => ?_
  refine W_seq (W_reg ?_)
  simp only [r108_0, sx, Nat.reduceBEq, Nat.reduceAdd, Nat.reduceLeDiff, reduceCtorEq]
  refine W_seq (W_reg ?_)
  simp only [r108_1, r108_1a, r108_1b, r108_1c, sx, Nat.reduceBEq, Nat.reduceAdd, Nat.reduceLeDiff, reduceCtorEq]
  refine CallW.u (clone119F hv) ?_
  rintro v1 own' u1 ⟨rfl, hv1, T, bs, hrb, hmb⟩ hle1
  simp only [sx, Nat.reduceBEq, Nat.reduceAdd, Nat.reduceLeDiff, reduceCtorEq]
  refine CallW.q (deleteSpans hv1 hval) ?_
  simp only [sx, Nat.reduceBEq, Nat.reduceAdd, Nat.reduceLeDiff, reduceCtorEq]
  refine W_seq (W_reg ?_)
  simp only [r108_2, r108_2a, sx, Nat.reduceBEq, Nat.reduceAdd, Nat.reduceLeDiff, reduceCtorEq]
  have hlt : xs.Pairwise ltS := List.Pairwise.imp_of_mem (fun {a b} ha _ h => apart_lt (hval a ha) h) hap
  refine CallW.q (sort_q hrb hmb hlt hn) ?_
  simp only [sx, Nat.reduceBEq, Nat.reduceAdd, Nat.reduceLeDiff, reduceCtorEq]
  refine W_seq (W_reg ?_)
  simp only [r108_3, sx, Nat.reduceBEq, Nat.reduceAdd, Nat.reduceLeDiff, reduceCtorEq]
  refine W_seq (W_seq ?_)
  obtain ⟨a1, c1, rfl, hmax, hcap, hrow, hlen⟩ := hv1
  simp only [List.length_map] at hmax hcap
  refine W_reg ?_
  simp only [r108_4, sx, Nat.reduceBEq, Nat.reduceAdd, Nat.reduceLeDiff, reduceCtorEq]
  rw [List.length_map]
  refine W_row0 38 3 ?_
  refine W_blk (W_loop (fun m e bx own u' => ∃ (i : Nat) (a : Option Addr) (c : Nat), i ≤ xs.length ∧ m = xs.length - i ∧ St [(4, .slice a (normS (xs.take i)).length c), (13, .slice a1 xs.length c1), (14, ic xs.length), (15, ic i)] [] (fun own u' => mle u1 u' ∧ own = [Row 38 3 (.slice a (normS (xs.take i)).length c) (normS (xs.take i)).length ((normS (xs.take i)).map spanC).flatten]) e bx own u') (m := xs.length) ⟨0, none, 0, by omega, by omega, .mk ⟨mle_refl _, rfl⟩⟩ ?_)
  rintro m e bx own u' ⟨i, a, c, hi, rfl, ⟨hle, rfl⟩⟩
  refine W_seq (W_reg ?_)
  simp only [r108_5, sx, Nat.reduceBEq, Nat.reduceAdd, Nat.reduceLeDiff, reduceCtorEq]
  refine W_seq (W_cnd rfl (fun hc => W_skip ?_) (fun hc => W_exit ?_))
  rotate_left
  · have hge : ¬ i < xs.length := by simpa using hc
    rw [List.take_of_length_le (by omega)]
    refine W_seq (W_reg ?_)
    simp only [r108_12, sx, Nat.reduceBEq, Nat.reduceAdd, Nat.reduceLeDiff, reduceCtorEq]
    refine W_frz fun u3 bs3 hle3 hrb3 hmb3 => ?_
    refine W_ret (RetQ.outG rfl trivial (fun w i => i) ⟨rfl, SlC.mono (SlC_rowB (by rw [List.length_map]; exact hrb3) (by rw [List.length_map]; exact Nat.le_trans (normS_len xs) hn) (by simp [spanC])) hmb3⟩)
  have hlti : i < xs.length := by simpa using hc
  obtain ⟨o, off, rfl, hr⟩ := hrow (map_ne hlti)
  have hcell := (SlC_at hr hlen (by simpa using hlti)).mono (mpl_mu hle)
  rw [List.getElem_map] at hcell
  refine W_seq (W_blk ?_)
  refine W_seq (W_reg ?_)
  simp only [r108_6, r108_6a, r108_6b, r108_6c, sx, Nat.reduceBEq, Nat.reduceAdd, Nat.reduceLeDiff, reduceCtorEq]
  refine ⟨by omega, spanC xs[i], hcell.lrow, rfl, ?_⟩
  simp only [spanC, sx, Nat.reduceBEq, Nat.reduceAdd, Nat.reduceLeDiff, reduceCtorEq]
  intro b6
  refine W_seq ?_
  refine W_seq (W_reg ?_)
  simp only [r108_7, sx, Nat.reduceBEq, Nat.reduceAdd, Nat.reduceLeDiff, reduceCtorEq]
  have hstep := normS_take hlti
  have hnl : (normS (xs.take i)).length ≤ i := Nat.le_trans (normS_len _) (by rw [List.length_take]; omega)
  generalize normS (xs.take i) = acc at *
  rcases List.eq_nil_or_concat acc with rfl | ⟨q, ol, rfl⟩
  · simp only [sx, Nat.reduceBEq, Nat.reduceAdd, Nat.reduceLeDiff, reduceCtorEq]
    rw [wrapI (by simp) (by simp), show ((0 : Nat) : Int) - 1 = -1 from rfl]
    have e2 : decide ((0 : Int) ≤ -1) = false := rfl
    have hms : mergeS [] xs[i] = [xs[i]] := rfl
    rw [hms] at hstep
    refine W_seq (W_drw (drawOK mixedP) ?_)
    cases a with
    | none =>
      simp only [WSD, A.wpD, r108_8, r108_8a, r108_8b, r108_8c, r108_8d, e2, sx, Nat.reduceBEq, Nat.reduceAdd, Nat.reduceLeDiff, reduceCtorEq]
      refine ⟨[ic 0], rfl, ?_⟩
      simp only [WSD, A.wpD, e2, sx, Nat.reduceBEq, Nat.reduceAdd, Nat.reduceLeDiff, reduceCtorEq]
      refine ⟨[ic 0], rfl, ?_⟩
      simp only [WSD, A.wpD, e2, sx, Nat.reduceBEq, Nat.reduceAdd, Nat.reduceLeDiff, reduceCtorEq]
      refine W_cnd rfl (fun hb => by cases hb) (fun hb => W_skip ?_)
      refine W_reg ?_
      simp only [r108_10, r108_10a, r108_10b, r108_10c, sx, Nat.reduceBEq, Nat.reduceAdd, Nat.reduceLeDiff, reduceCtorEq]
      refine .inl ⟨by simp [lenAll, vcells], fun blk u9 hle9 hu9 => ?_⟩
      refine ⟨0, [], [], spanC xs[i], List.Perm.refl _, by simp [spanC], fun _ => ⟨blk, 0, rfl, _, _, _, hu9, by simp [flatC, vcells, spanC]⟩, ⟨rfl, rfl, rfl, trivial⟩, by omega, by omega, ?_⟩
      rintro v' ⟨a', c', rfl⟩
      refine W_reg ?_
      simp only [r108_11, sx, Nat.reduceBEq, Nat.reduceAdd, Nat.reduceLeDiff, reduceCtorEq]
      rw [wrapS hlti hmax]
      exact ⟨_, by omega, i + 1, a', c', by omega, rfl, by rw [hstep]; exact .mk ⟨mle_trans hle hle9, by simp⟩⟩
    | some ad =>
      obtain ⟨ab, ao, asp⟩ := ad
      simp only [WSD, A.wpD, r108_8, r108_8a, r108_8b, r108_8c, r108_8d, e2, sx, Nat.reduceBEq, Nat.reduceAdd, Nat.reduceLeDiff, reduceCtorEq]
      refine ⟨[ic 0], rfl, ?_⟩
      simp only [WSD, A.wpD, e2, sx, Nat.reduceBEq, Nat.reduceAdd, Nat.reduceLeDiff, reduceCtorEq]
      refine ⟨[ic 0], rfl, ?_⟩
      simp only [WSD, A.wpD, e2, sx, Nat.reduceBEq, Nat.reduceAdd, Nat.reduceLeDiff, reduceCtorEq]
      refine W_cnd rfl (fun hb => by cases hb) (fun hb => W_skip ?_)
      refine W_reg ?_
      simp only [r108_10, r108_10a, r108_10b, r108_10c, sx, Nat.reduceBEq, Nat.reduceAdd, Nat.reduceLeDiff, reduceCtorEq]
      refine .inl ⟨by simp [lenAll, vcells], fun blk u9 hle9 hu9 => ?_⟩
      refine ⟨0, [], [], spanC xs[i], List.Perm.refl _, by simp [spanC], fun _ => ⟨blk, 0, rfl, _, _, _, hu9, by simp [flatC, vcells, spanC]⟩, ⟨rfl, rfl, rfl, trivial⟩, by omega, by omega, ?_⟩
      rintro v' ⟨a', c', rfl⟩
      refine W_reg ?_
      simp only [r108_11, sx, Nat.reduceBEq, Nat.reduceAdd, Nat.reduceLeDiff, reduceCtorEq]
      rw [wrapS hlti hmax]
      exact ⟨_, by omega, i + 1, a', c', by omega, rfl, by rw [hstep]; exact .mk ⟨mle_trans hle hle9, by simp⟩⟩
  · rw [List.concat_eq_append] at *
    have hn1 : (q ++ [ol]).length = q.length + 1 := by simp
    rw [mergeS_snoc] at hstep
    refine W_rowbox (by omega) fun g cur ha h1 h2 h3 h4 => ?_
    subst ha
    have hQ := spanFlat_len q
    obtain ⟨tail, rfl⟩ : ∃ tail, cur = (q.map spanC).flatten ++ ic ol.mark :: ic ol.from_ :: ic ol.to_ :: tail := by
      refine ⟨cur.drop ((q ++ [ol]).length * 3), ?_⟩
      conv => lhs; rw [← List.take_append_drop ((q ++ [ol]).length * 3) cur, h4]
      simp [spanC]
    have e7 : IntKind.i64.wrap ((((q ++ [ol]).length : Nat) : Int) - 1) = (q.length : Int) := by rw [hn1, wrapI (by omega) (by omega)]; omega
    have e2 : decide ((0 : Int) ≤ (q.length : Int)) = true := decide_eq_true (by omega)
    have b1 : (((q.map spanC).flatten ++ ic ol.mark :: ic ol.from_ :: ic ol.to_ :: tail).drop (q.length * 3)).take 1 = [ic ol.mark] := by rw [← hQ]; exact (at3 _ _ _ _ _).1
    have b2 : (((q.map spanC).flatten ++ ic ol.mark :: ic ol.from_ :: ic ol.to_ :: tail).drop (q.length * 3 + 2)).take 1 = [ic ol.to_] := by rw [← hQ]; exact (at3 _ _ _ _ _).2
    have b3 : ∀ x, setAt ((q.map spanC).flatten ++ ic ol.mark :: ic ol.from_ :: ic ol.to_ :: tail) (q.length * 3 + 2) [x] = (q.map spanC).flatten ++ ic ol.mark :: ic ol.from_ :: x :: tail := fun x => by rw [← hQ]; exact set3 _ _ _ _ _ _
    rw [e7]
    refine W_seq (W_drw (drawOK mixedP) ?_)
    simp only [WSD, A.wpD, r108_8, r108_8a, r108_8b, r108_8c, r108_8d, e2, sx, Nat.reduceBEq, Nat.reduceAdd, Nat.reduceLeDiff, reduceCtorEq]
    refine ⟨⟨by omega, by omega⟩, [ic ol.mark], .inr ⟨⟨900, g, _, 38⟩, List.mem_cons_self, rfl, b1⟩, rfl, ?_⟩
    simp only [WSD, A.wpD, sx, Nat.reduceBEq, Nat.reduceAdd, Nat.reduceLeDiff, reduceCtorEq]
    refine ⟨fun _ => ⟨by omega, by omega⟩, [ic ol.to_], fun _ => .inr ⟨⟨900, g, _, 38⟩, List.mem_cons_self, rfl, b2⟩, rfl, ?_⟩
    simp only [WSD, A.wpD, sx, Nat.reduceBEq, Nat.reduceAdd, Nat.reduceLeDiff, reduceCtorEq]
    have hcd : (bif ol.mark == xs[i].mark then decide (xs[i].from_ ≤ ol.to_) else false) = ((ol.mark == xs[i].mark) && decide (ol.to_ ≥ xs[i].from_)) := by cases (ol.mark == xs[i].mark) <;> rfl
    rw [hcd]
    cases hcnd : (ol.mark == xs[i].mark) && decide (ol.to_ ≥ xs[i].from_) with
    | false =>
      rw [hcnd] at hstep
      simp only [cond_false] at hstep
      refine W_cnd rfl (fun hb => by cases hb) (fun hb => W_skip ?_)
      refine W_boxrow h1 h2 h3 h4 ?_
      refine W_reg ?_
      simp only [r108_10, r108_10a, r108_10b, r108_10c, sx, Nat.reduceBEq, Nat.reduceAdd, Nat.reduceLeDiff, reduceCtorEq]
      refine .inl ⟨by simp [lenAll, vcells], fun blk u9 hle9 hu9 => ?_⟩
      refine ⟨(q ++ [ol]).length, ((q ++ [ol]).map spanC).flatten, [], spanC xs[i], List.Perm.refl _, by simp [spanC], fun _ => ⟨blk, 0, rfl, _, _, _, hu9, by simp [flatC, vcells, spanC]⟩, ⟨rfl, rfl, rfl, trivial⟩, by omega, by omega, ?_⟩
      rintro v' ⟨a', c', rfl⟩
      refine W_reg ?_
      simp only [r108_11, sx, Nat.reduceBEq, Nat.reduceAdd, Nat.reduceLeDiff, reduceCtorEq]
      rw [wrapS hlti hmax]
      have el : (normS (xs.take (i + 1))).length = (q ++ [ol]).length + 1 := by rw [hstep]; simp
      have ef : ((normS (xs.take (i + 1))).map spanC).flatten = ((q ++ [ol]).map spanC).flatten ++ spanC xs[i] := by rw [hstep]; simp
      refine ⟨_, by omega, i + 1, a', c', by omega, rfl, ?_⟩
      rw [← el]
      exact .mk ⟨mle_trans hle hle9, by rw [ef]⟩
    | true =>
      rw [hcnd] at hstep
      simp only [cond_true] at hstep
      refine W_cnd rfl (fun hb => ?_) (fun hb => by cases hb)
      refine W_seq (W_drw (drawOK mixedP) ?_)
      simp only [WSD, A.wpD, r108_9, r108_9a, r108_9b, r108_9c, sx, Nat.reduceBEq, Nat.reduceAdd, Nat.reduceLeDiff, reduceCtorEq]
      refine ⟨⟨by omega, by omega⟩, [ic ol.to_], .inr ⟨⟨900, g, _, 38⟩, List.mem_cons_self, rfl, b2⟩, rfl, ?_⟩
      simp only [WSD, A.wpD, sx, Nat.reduceBEq, Nat.reduceAdd, Nat.reduceLeDiff, reduceCtorEq]
      refine ⟨⟨by omega, by omega⟩, 900, _, rfl, rfl, by rw [List.length_append, hQ]; simp; omega, ?_⟩
      simp only [b3, sx, Nat.reduceBEq, Nat.reduceAdd, Nat.reduceLeDiff, reduceCtorEq]
      refine W_exit ?_
      simp only [sx, Nat.reduceBEq, Nat.reduceAdd, Nat.reduceLeDiff, reduceCtorEq]
      have el : (normS (xs.take (i + 1))).length = (q ++ [ol]).length := by rw [hstep]; simp
      have hl3 : ((q.map spanC).flatten ++ ic ol.mark :: ic ol.from_ :: ic (if ol.to_ < xs[i].to_ then xs[i].to_ else ol.to_) :: tail).length = c * 3 := by simpa using h3
      refine W_boxrow (m := (q ++ [ol]).length) (cap := c) (xs := ((normS (xs.take (i + 1))).map spanC).flatten) h1 h2 hl3 ?_ ?_
      · rw [hstep]
        have : (q ++ [ol]).length * 3 = ((q.map spanC).flatten ++ [ic ol.mark, ic ol.from_, ic (if ol.to_ < xs[i].to_ then xs[i].to_ else ol.to_)]).length := by rw [hn1, List.length_append, hQ]; simp; omega
        rw [this, show (q.map spanC).flatten ++ ic ol.mark :: ic ol.from_ :: ic (if ol.to_ < xs[i].to_ then xs[i].to_ else ol.to_) :: tail = ((q.map spanC).flatten ++ [ic ol.mark, ic ol.from_, ic (if ol.to_ < xs[i].to_ then xs[i].to_ else ol.to_)]) ++ tail from by simp, List.take_left]
        simp [spanC]
      refine W_reg ?_
      simp only [r108_11, sx, Nat.reduceBEq, Nat.reduceAdd, Nat.reduceLeDiff, reduceCtorEq]
      rw [wrapS hlti hmax]
      refine ⟨_, by omega, i + 1, some ⟨g, 0, none⟩, c, by omega, rfl, ?_⟩
      rw [← el]
      exact .mk ⟨hle, rfl⟩
end Go.Proofs.YtenmmfkgopffgaaGreatDoor

namespace Go.Proofs.YtenmmfkgopffgaaGreatDoor
open Go

theorem paid_c {v : Value} {xs : List Paid} {u : Mem} (hv : SlF 5 paidC (MU u) v xs) : QFn Tryz.prog 87 [v] u (.bool (paidB [] xs)) := by
  obtain ⟨a, c, rfl, hmax, hcap, hrow, hlen⟩ := hv
  simp only [List.length_map] at hmax hcap
  refine fn87 fun cx hu => ?_
  refine W_seq (W_reg ?_)
  simp only [r87_0, sx, Nat.reduceBEq, Nat.reduceAdd, Nat.reduceLeDiff, reduceCtorEq]
  refine W_seq (W_reg ?_)
  simp only [r87_1, r87_1a, sx, Nat.reduceBEq, Nat.reduceAdd, Nat.reduceLeDiff, reduceCtorEq]
  intro b
  refine W_seq ?_
  refine W_seq (W_reg ?_)
  simp only [r87_2, sx, Nat.reduceBEq, Nat.reduceAdd, Nat.reduceLeDiff, reduceCtorEq]
  refine (W_blk (W_loop (fun m e bx own u' => ∃ i, i ≤ xs.length ∧ m = xs.length - i ∧ St [(3, .map (some b)), (7, .slice a xs.length c), (8, ic xs.length), (9, ic i)] [] (fun own u' => ∃ S, own = [SMap b S] ∧ mle u u' ∧ paidB [] xs = paidB S (xs.drop i)) e bx own u') (m := xs.length) ⟨0, by omega, by omega, ?_⟩ ?_))
  · rw [List.length_map]; exact .mk ⟨[], rfl, mle_refl _, rfl⟩
  rintro m e bx own u' ⟨i, hi, rfl, ⟨S, rfl, hle, hs⟩⟩
  refine W_seq (W_reg ?_)
  simp only [r87_3, sx, Nat.reduceBEq, Nat.reduceAdd, Nat.reduceLeDiff, reduceCtorEq]
  refine W_seq (W_cnd rfl (fun hc => W_skip ?_) (fun hc => W_exit ?_))
  · have hlt : i < xs.length := by simpa using hc
    obtain ⟨o, off, rfl, hr⟩ := hrow (map_ne hlt)
    have hcell := SlC_at hr hlen (by simpa using hlt)
    rw [List.getElem_map] at hcell
    refine W_seq (W_blk ?_)
    refine W_seq (W_reg ?_)
    simp only [r87_4, r87_4a, r87_4b, r87_4c, paidC, sx, Nat.reduceBEq, Nat.reduceAdd, Nat.reduceLeDiff, reduceCtorEq]
    refine ⟨by omega, paidC xs[i], (hcell.mono (mpl_mu hle)).lrow, rfl, ?_⟩
    simp only [paidC, sx, Nat.reduceBEq, Nat.reduceAdd, Nat.reduceLeDiff, reduceCtorEq]
    intro blk
    refine W_mid (fun e bx own u' => ∃ r, St [(3, .map (some b)), (7, .slice (some ⟨o, off, none⟩) xs.length c), (8, ic xs.length), (9, ic i), (40, .bool r)] [] (fun own u' => ∃ S', own = [SMap b S'] ∧ mle u u' ∧ (r = true → paidB S (xs.drop i) = false) ∧ (r = false → paidB S (xs.drop i) = paidB S' (xs.drop (i + 1)))) e bx own u') ?_ ?_
    · rw [List.drop_eq_getElem_cons hlt]
      simp only [paidB]
      refine W_reg ?_
      simp only [r87_5, r87_5a, sx, Nat.reduceBEq, Nat.reduceAdd, Nat.reduceLeDiff, reduceCtorEq]
      refine ⟨_, mark_q _ _, ?_⟩
      simp only [r87_5b, r87_5c, r87_5c_g, r87_5c_ga, sx, Nat.reduceBEq, Nat.reduceAdd, Nat.reduceLeDiff, reduceCtorEq]
      refine ⟨fun h1 => ?_, fun h1 => ?_⟩
      rotate_left
      · simp only [r87_5, r87_5a, r87_5b, r87_5c, r87_5c_g, r87_5c_ga, r87_5c_gb, r87_5d, r87_5e, r87_5e_g, r87_5e_ga, r87_5e_gb, r87_5f, r87_5g, r87_5g_g, r87_5g_ga, r87_5g_gb, r87_5g_gc, r87_5h, sx, Nat.reduceBEq, Nat.reduceAdd, Nat.reduceLeDiff, reduceCtorEq]
        exact ⟨true, .mk ⟨_, rfl, hle, fun _ => by simp_all, fun h => by cases h⟩⟩
      refine CallW.own (rest := []) (first_c b S xs[i].mark u') (List.Perm.refl _) ?_
      rintro v own' u1 ⟨rfl, rfl, rfl⟩ _
      simp only [r87_5c_gb, r87_5d, r87_5e, r87_5e_g, r87_5e_ga, sx, Nat.reduceBEq, Nat.reduceAdd, Nat.reduceLeDiff, reduceCtorEq]
      refine ⟨fun h2 => ?_, fun h2 => ?_⟩
      rotate_left
      · simp only [r87_5, r87_5a, r87_5b, r87_5c, r87_5c_g, r87_5c_ga, r87_5c_gb, r87_5d, r87_5e, r87_5e_g, r87_5e_ga, r87_5e_gb, r87_5f, r87_5g, r87_5g_g, r87_5g_ga, r87_5g_gb, r87_5g_gc, r87_5h, sx, Nat.reduceBEq, Nat.reduceAdd, Nat.reduceLeDiff, reduceCtorEq]
        exact ⟨true, .mk ⟨_, rfl, hle, fun _ => by simp_all, fun h => by cases h⟩⟩
      refine ⟨_, key_q _ _, ?_⟩
      simp only [r87_5e_gb, r87_5f, r87_5g, r87_5g_g, r87_5g_ga, r87_5g_gb, sx, Nat.reduceBEq, Nat.reduceAdd, Nat.reduceLeDiff, reduceCtorEq]
      refine ⟨fun h3 => ?_, fun h3 => ?_⟩
      rotate_left
      · simp only [r87_5, r87_5a, r87_5b, r87_5c, r87_5c_g, r87_5c_ga, r87_5c_gb, r87_5d, r87_5e, r87_5e_g, r87_5e_ga, r87_5e_gb, r87_5f, r87_5g, r87_5g_g, r87_5g_ga, r87_5g_gb, r87_5g_gc, r87_5h, sx, Nat.reduceBEq, Nat.reduceAdd, Nat.reduceLeDiff, reduceCtorEq]
        exact ⟨true, .mk ⟨_, rfl, hle, fun _ => by simp_all, fun h => by cases h⟩⟩
      refine .inl ⟨by simp [lenAll, vcells], fun blk2 u2 hle2 hu2 => ?_⟩
      refine CallW.q (every_n (ints_new (xs := [xs[i].period, xs[i].day, xs[i].n]) (by simp [maxN]) hu2)) ?_
      simp only [r87_5, r87_5a, r87_5b, r87_5c, r87_5c_g, r87_5c_ga, r87_5c_gb, r87_5d, r87_5e, r87_5e_g, r87_5e_ga, r87_5e_gb, r87_5f, r87_5g, r87_5g_g, r87_5g_ga, r87_5g_gb, r87_5g_gc, r87_5h, sx, Nat.reduceBEq, Nat.reduceAdd, Nat.reduceLeDiff, reduceCtorEq]
      refine ⟨_, .mk ⟨_, rfl, mle_trans hle hle2, fun h4 => ?_, fun h4 => ?_⟩⟩
      · simp_all
      · simp_all
    · rintro e bx own u1 ⟨r, ⟨S', rfl, hle1, hr1, hr2⟩⟩
      refine W_cnd rfl (fun hb => ?_) (fun hb => W_skip ?_)
      · refine W_seq (W_reg ?_)
        simp only [r87_6, sx, Nat.reduceBEq, Nat.reduceAdd, Nat.reduceLeDiff, reduceCtorEq]
        refine W_ret (RetQ.outQ hu hle1 rfl trivial ⟨?_, rfl, rfl⟩)
        rw [hs, hr1 hb]
      · refine W_reg ?_
        simp only [r87_7, sx, Nat.reduceBEq, Nat.reduceAdd, Nat.reduceLeDiff, reduceCtorEq]
        rw [wrapS hlt hmax]
        exact ⟨_, by omega, i + 1, by omega, rfl, .mk ⟨S', rfl, hle1, by rw [hs, hr2 hb]⟩⟩
  · have hge : ¬ i < xs.length := by simpa using hc
    rw [List.drop_eq_nil_of_le (by omega)] at hs
    refine W_seq (W_reg ?_)
    simp only [r87_8, sx, Nat.reduceBEq, Nat.reduceAdd, Nat.reduceLeDiff, reduceCtorEq]
    refine W_ret (RetQ.outQ hu hle rfl trivial ⟨by rw [hs]; rfl, rfl, rfl⟩)
theorem bids_c {v : Value} {xs : List Bid} {u : Mem} (hv : SlF 4 bidC (MU u) v xs) : QFn Tryz.prog 88 [v] u (.bool (bidsB [] xs)) := by
  obtain ⟨a, c, rfl, hmax, hcap, hrow, hlen⟩ := hv
  simp only [List.length_map] at hmax hcap
  refine fn88 fun cx hu => ?_
  refine W_seq (W_reg ?_)
  simp only [r88_0, sx, Nat.reduceBEq, Nat.reduceAdd, Nat.reduceLeDiff, reduceCtorEq]
  refine W_seq (W_reg ?_)
  simp only [r88_1, r88_1a, sx, Nat.reduceBEq, Nat.reduceAdd, Nat.reduceLeDiff, reduceCtorEq]
  intro b
  refine W_seq ?_
  refine W_seq (W_reg ?_)
  simp only [r88_2, sx, Nat.reduceBEq, Nat.reduceAdd, Nat.reduceLeDiff, reduceCtorEq]
  refine (W_blk (W_loop (fun m e bx own u' => ∃ i, i ≤ xs.length ∧ m = xs.length - i ∧ St [(3, .map (some b)), (7, .slice a xs.length c), (8, ic xs.length), (9, ic i)] [] (fun own u' => ∃ S, own = [SMap b S] ∧ mle u u' ∧ bidsB [] xs = bidsB S (xs.drop i)) e bx own u') (m := xs.length) ⟨0, by omega, by omega, ?_⟩ ?_))
  · rw [List.length_map]; exact .mk ⟨[], rfl, mle_refl _, rfl⟩
  rintro m e bx own u' ⟨i, hi, rfl, ⟨S, rfl, hle, hs⟩⟩
  refine W_seq (W_reg ?_)
  simp only [r88_3, sx, Nat.reduceBEq, Nat.reduceAdd, Nat.reduceLeDiff, reduceCtorEq]
  refine W_seq (W_cnd rfl (fun hc => W_skip ?_) (fun hc => W_exit ?_))
  · have hlt : i < xs.length := by simpa using hc
    obtain ⟨o, off, rfl, hr⟩ := hrow (map_ne hlt)
    have hcell := SlC_at hr hlen (by simpa using hlt)
    rw [List.getElem_map] at hcell
    refine W_seq (W_blk ?_)
    refine W_seq (W_reg ?_)
    simp only [r88_4, r88_4a, r88_4b, r88_4c, bidC, sx, Nat.reduceBEq, Nat.reduceAdd, Nat.reduceLeDiff, reduceCtorEq]
    refine ⟨by omega, bidC xs[i], (hcell.mono (mpl_mu hle)).lrow, rfl, ?_⟩
    simp only [bidC, sx, Nat.reduceBEq, Nat.reduceAdd, Nat.reduceLeDiff, reduceCtorEq]
    intro blk
    refine W_mid (fun e bx own u' => ∃ r, St [(3, .map (some b)), (7, .slice (some ⟨o, off, none⟩) xs.length c), (8, ic xs.length), (9, ic i), (40, .bool r)] [] (fun own u' => ∃ S', own = [SMap b S'] ∧ mle u u' ∧ (r = true → bidsB S (xs.drop i) = false) ∧ (r = false → bidsB S (xs.drop i) = bidsB S' (xs.drop (i + 1)))) e bx own u') ?_ ?_
    · rw [List.drop_eq_getElem_cons hlt]
      simp only [bidsB]
      refine W_reg ?_
      simp only [r88_5, r88_5a, sx, Nat.reduceBEq, Nat.reduceAdd, Nat.reduceLeDiff, reduceCtorEq]
      refine ⟨_, mark_q _ _, ?_⟩
      simp only [r88_5b, r88_5c, r88_5c_g, r88_5c_ga, sx, Nat.reduceBEq, Nat.reduceAdd, Nat.reduceLeDiff, reduceCtorEq]
      refine ⟨fun h1 => ?_, fun h1 => ?_⟩
      rotate_left
      · simp only [r88_5, r88_5a, r88_5b, r88_5c, r88_5c_g, r88_5c_ga, r88_5c_gb, r88_5d, r88_5e, r88_5e_g, r88_5e_ga, r88_5e_gb, r88_5f, r88_5g, r88_5g_g, r88_5h, r88_5h_g, r88_5h_ga, r88_5h_gb, r88_5i, r88_5i_g, r88_5j, sx, Nat.reduceBEq, Nat.reduceAdd, Nat.reduceLeDiff, reduceCtorEq]
        exact ⟨true, .mk ⟨_, rfl, hle, fun _ => by simp_all, fun h => by cases h⟩⟩
      refine CallW.own (rest := []) (first_c b S xs[i].mark u') (List.Perm.refl _) ?_
      rintro v own' u1 ⟨rfl, rfl, rfl⟩ _
      simp only [r88_5c_gb, r88_5d, r88_5e, r88_5e_g, r88_5e_ga, sx, Nat.reduceBEq, Nat.reduceAdd, Nat.reduceLeDiff, reduceCtorEq]
      refine ⟨fun h2 => ?_, fun h2 => ?_⟩
      rotate_left
      · simp only [r88_5, r88_5a, r88_5b, r88_5c, r88_5c_g, r88_5c_ga, r88_5c_gb, r88_5d, r88_5e, r88_5e_g, r88_5e_ga, r88_5e_gb, r88_5f, r88_5g, r88_5g_g, r88_5h, r88_5h_g, r88_5h_ga, r88_5h_gb, r88_5i, r88_5i_g, r88_5j, sx, Nat.reduceBEq, Nat.reduceAdd, Nat.reduceLeDiff, reduceCtorEq]
        exact ⟨true, .mk ⟨_, rfl, hle, fun _ => by simp_all, fun h => by cases h⟩⟩
      refine ⟨_, key_q _ _, ?_⟩
      simp only [r88_5e_gb, r88_5f, r88_5g, r88_5g_g, sx, Nat.reduceBEq, Nat.reduceAdd, Nat.reduceLeDiff, reduceCtorEq]
      refine ⟨fun h3 => ?_, fun h3 => ?_⟩
      rotate_left
      · simp only [r88_5, r88_5a, r88_5b, r88_5c, r88_5c_g, r88_5c_ga, r88_5c_gb, r88_5d, r88_5e, r88_5e_g, r88_5e_ga, r88_5e_gb, r88_5f, r88_5g, r88_5g_g, r88_5h, r88_5h_g, r88_5h_ga, r88_5h_gb, r88_5i, r88_5i_g, r88_5j, sx, Nat.reduceBEq, Nat.reduceAdd, Nat.reduceLeDiff, reduceCtorEq]
        exact ⟨true, .mk ⟨_, rfl, hle, fun _ => by simp_all, fun h => by cases h⟩⟩
      simp only [r88_5h, r88_5h_g, r88_5h_ga, sx, Nat.reduceBEq, Nat.reduceAdd, Nat.reduceLeDiff, reduceCtorEq]
      refine ⟨fun h4 => ?_, fun h4 => ?_⟩
      · refine ⟨_, number_q _ _, ?_⟩
        simp only [r88_5, r88_5a, r88_5b, r88_5c, r88_5c_g, r88_5c_ga, r88_5c_gb, r88_5d, r88_5e, r88_5e_g, r88_5e_ga, r88_5e_gb, r88_5f, r88_5g, r88_5g_g, r88_5h, r88_5h_g, r88_5h_ga, r88_5h_gb, r88_5i, r88_5i_g, r88_5j, h4, sx, Nat.reduceBEq, Nat.reduceAdd, Nat.reduceLeDiff, reduceCtorEq]
        refine ⟨_, .mk ⟨_, rfl, hle, fun h5 => ?_, fun h5 => ?_⟩⟩
        · simp_all
        · simp_all
      · simp only [r88_5, r88_5a, r88_5b, r88_5c, r88_5c_g, r88_5c_ga, r88_5c_gb, r88_5d, r88_5e, r88_5e_g, r88_5e_ga, r88_5e_gb, r88_5f, r88_5g, r88_5g_g, r88_5h, r88_5h_g, r88_5h_ga, r88_5h_gb, r88_5i, r88_5i_g, r88_5j, h4, sx, Nat.reduceBEq, Nat.reduceAdd, Nat.reduceLeDiff, reduceCtorEq]
        refine ⟨_, .mk ⟨_, rfl, hle, fun h5 => ?_, fun h5 => ?_⟩⟩
        · simp_all
        · simp_all
    · rintro e bx own u1 ⟨r, ⟨S', rfl, hle1, hr1, hr2⟩⟩
      refine W_cnd rfl (fun hb => ?_) (fun hb => W_skip ?_)
      · refine W_seq (W_reg ?_)
        simp only [r88_6, sx, Nat.reduceBEq, Nat.reduceAdd, Nat.reduceLeDiff, reduceCtorEq]
        refine W_ret (RetQ.outQ hu hle1 rfl trivial ⟨?_, rfl, rfl⟩)
        rw [hs, hr1 hb]
      · refine W_reg ?_
        simp only [r88_7, sx, Nat.reduceBEq, Nat.reduceAdd, Nat.reduceLeDiff, reduceCtorEq]
        rw [wrapS hlt hmax]
        exact ⟨_, by omega, i + 1, by omega, rfl, .mk ⟨S', rfl, hle1, by rw [hs, hr2 hb]⟩⟩
  · have hge : ¬ i < xs.length := by simpa using hc
    rw [List.drop_eq_nil_of_le (by omega)] at hs
    refine W_seq (W_reg ?_)
    simp only [r88_8, sx, Nat.reduceBEq, Nat.reduceAdd, Nat.reduceLeDiff, reduceCtorEq]
    refine W_ret (RetQ.outQ hu hle rfl trivial ⟨by rw [hs]; rfl, rfl, rfl⟩)
end Go.Proofs.YtenmmfkgopffgaaGreatDoor

set_option maxRecDepth 4000
namespace Go.Proofs.YtenmmfkgopffgaaGreatDoor
open Go

theorem claims_c {v : Value} {xs : List Claim} {u : Mem} (hv : Sl 12 claimR (MU u) v xs) : QFn Tryz.prog 90 [v] u (.bool (claimsB [] xs)) := by
  obtain ⟨css, ⟨a, c, rfl, hmax, hcap, hrow, hlen⟩, hall⟩ := hv
  have hl : css.length = xs.length := hall.len
  refine fn90 fun cx hu => ?_
  refine W_seq (W_reg ?_)
  simp only [r90_0, sx, Nat.reduceBEq, Nat.reduceAdd, Nat.reduceLeDiff, reduceCtorEq]
  refine W_seq (W_reg ?_)
  simp only [r90_1, r90_1a, sx, Nat.reduceBEq, Nat.reduceAdd, Nat.reduceLeDiff, reduceCtorEq]
  intro b
  refine W_seq ?_
  refine W_seq (W_reg ?_)
  simp only [r90_2, sx, Nat.reduceBEq, Nat.reduceAdd, Nat.reduceLeDiff, reduceCtorEq]
  refine (W_blk (W_loop (fun m e bx own u' => ∃ i, i ≤ xs.length ∧ m = xs.length - i ∧ St [(3, .map (some b)), (8, .slice a css.length c), (9, ic css.length), (10, ic i)] [] (fun own u' => ∃ S, own = [SMap b S] ∧ mle u u' ∧ claimsB [] xs = claimsB S (xs.drop i)) e bx own u') (m := xs.length) ⟨0, by omega, by omega, ?_⟩ ?_))
  · exact .mk ⟨[], rfl, mle_refl _, rfl⟩
  rintro m e bx own u' ⟨i, hi, rfl, ⟨S, rfl, hle, hs⟩⟩
  refine W_seq (W_reg ?_)
  simp only [r90_3, sx, Nat.reduceBEq, Nat.reduceAdd, Nat.reduceLeDiff, reduceCtorEq]
  refine W_seq (W_cnd rfl (fun hc => W_skip ?_) (fun hc => W_exit ?_))
  · have hlt : i < css.length := by simpa using hc
    have hlx : i < xs.length := by omega
    obtain ⟨o, off, rfl, hr⟩ := hrow (by intro q; simp [q] at hlt)
    have hcell := (SlC_at hr hlen hlt).mono (mpl_mu hle)
    obtain ⟨vj, va, hcs, hj, ha⟩ := (hall.at_ hlt hlx).mono (mpl_mu hle)
    rw [hcs] at hcell
    refine W_seq (W_blk ?_)
    refine W_seq (W_reg ?_)
    simp only [r90_4, r90_4a, r90_4b, r90_4c, sx, Nat.reduceBEq, Nat.reduceAdd, Nat.reduceLeDiff, reduceCtorEq]
    refine ⟨by omega, _, hcell.lrow, rfl, ?_⟩
    simp only [sx, Nat.reduceBEq, Nat.reduceAdd, Nat.reduceLeDiff, reduceCtorEq]
    intro blk
    refine ⟨⟨hj.one, ha.one⟩, ?_⟩
    refine W_seq (W_reg ?_)
    simp only [r90_5, r90_5a, sx, Nat.reduceBEq, Nat.reduceAdd, Nat.reduceLeDiff, reduceCtorEq]
    refine .inl ⟨by simp [lenAll, vcells], fun blk2 u2 hle2 hu2 => ?_⟩
    simp only [r90_5b, sx, Nat.reduceBEq, Nat.reduceAdd, Nat.reduceLeDiff, reduceCtorEq]
    refine CallW.q (every_n (ints_new (xs := [xs[i].n, xs[i].event, xs[i].day, xs[i].proofs, xs[i].grant, xs[i].from_]) (by simp [maxN]) hu2)) ?_
    simp only [r90_5c, sx, Nat.reduceBEq, Nat.reduceAdd, Nat.reduceLeDiff, reduceCtorEq]
    have hj := hj.mono (mpl_mu hle2)
    have ha := ha.mono (mpl_mu hle2)
    have hle := mle_trans hle hle2
    clear hcell
    refine W_mid (fun e bx own u' => ∃ r, St [(3, .map (some b)), (8, .slice (some ⟨o, off, none⟩) css.length c), (9, ic css.length), (10, ic i), (76, .bool r)] [] (fun own u' => ∃ S', own = [SMap b S'] ∧ mle u u' ∧ (r = true → claimsB S (xs.drop i) = false) ∧ (r = false → claimsB S (xs.drop i) = claimsB S' (xs.drop (i + 1)))) e bx own u') ?_ ?_
    · rw [List.drop_eq_getElem_cons hlx]
      simp only [claimsB, claimB]
      refine W_reg ?_
      simp only [r90_6, r90_6a, sx, Nat.reduceBEq, Nat.reduceAdd, Nat.reduceLeDiff, reduceCtorEq]
      refine ⟨_, mark_q _ _, ?_⟩
      simp only [r90_6b, r90_6c, r90_6c_g, r90_6c_ga, sx, Nat.reduceBEq, Nat.reduceAdd, Nat.reduceLeDiff, reduceCtorEq]
      refine ⟨fun hh1 => ?_, fun hh1 => ?_⟩
      rotate_left
      · simp only [r90_6c_g, r90_6c_ga, r90_6c_gb, r90_6d, r90_6e, r90_6e_g, r90_6e_ga, r90_6e_gb, sx, Nat.reduceBEq, Nat.reduceAdd, Nat.reduceLeDiff, reduceCtorEq]
        simp only [r90_6f, r90_6g, r90_6g_g, r90_6g_ga, r90_6g_gb, sx, Nat.reduceBEq, Nat.reduceAdd, Nat.reduceLeDiff, reduceCtorEq]
        simp only [r90_6h, r90_6i, r90_6i_g, sx, Nat.reduceBEq, Nat.reduceAdd, Nat.reduceLeDiff, reduceCtorEq]
        simp only [r90_6j, r90_6k, r90_6k_g, r90_6k_ga, r90_6k_gb, sx, Nat.reduceBEq, Nat.reduceAdd, Nat.reduceLeDiff, reduceCtorEq]
        simp only [r90_6l, r90_6m, r90_6m_g, r90_6m_ga, r90_6m_gb, sx, Nat.reduceBEq, Nat.reduceAdd, Nat.reduceLeDiff, reduceCtorEq]
        simp only [r90_6n, r90_6o, r90_6o_g, sx, Nat.reduceBEq, Nat.reduceAdd, Nat.reduceLeDiff, reduceCtorEq]
        simp only [r90_6p, r90_6q, r90_6q_g, sx, Nat.reduceBEq, Nat.reduceAdd, Nat.reduceLeDiff, reduceCtorEq]
        simp only [r90_6r, sx, Nat.reduceBEq, Nat.reduceAdd, Nat.reduceLeDiff, reduceCtorEq]
        exact ⟨true, .mk ⟨_, rfl, hle, fun _ => by simp_all <;> intros <;> omega, fun h => by cases h⟩⟩
      refine CallW.own (rest := []) (first_c b S xs[i].mark _) (List.Perm.refl _) ?_
      rintro v own' u1 ⟨rfl, rfl, rfl⟩ _
      simp only [r90_6c_gb, r90_6d, r90_6e, r90_6e_g, r90_6e_ga, sx, Nat.reduceBEq, Nat.reduceAdd, Nat.reduceLeDiff, reduceCtorEq]
      refine ⟨fun hh2 => ?_, fun hh2 => ?_⟩
      rotate_left
      · simp only [r90_6e_g, r90_6e_ga, r90_6e_gb, r90_6f, r90_6g, r90_6g_g, r90_6g_ga, r90_6g_gb, sx, Nat.reduceBEq, Nat.reduceAdd, Nat.reduceLeDiff, reduceCtorEq]
        simp only [r90_6h, r90_6i, r90_6i_g, sx, Nat.reduceBEq, Nat.reduceAdd, Nat.reduceLeDiff, reduceCtorEq]
        simp only [r90_6j, r90_6k, r90_6k_g, r90_6k_ga, r90_6k_gb, sx, Nat.reduceBEq, Nat.reduceAdd, Nat.reduceLeDiff, reduceCtorEq]
        simp only [r90_6l, r90_6m, r90_6m_g, r90_6m_ga, r90_6m_gb, sx, Nat.reduceBEq, Nat.reduceAdd, Nat.reduceLeDiff, reduceCtorEq]
        simp only [r90_6n, r90_6o, r90_6o_g, sx, Nat.reduceBEq, Nat.reduceAdd, Nat.reduceLeDiff, reduceCtorEq]
        simp only [r90_6p, r90_6q, r90_6q_g, sx, Nat.reduceBEq, Nat.reduceAdd, Nat.reduceLeDiff, reduceCtorEq]
        simp only [r90_6r, sx, Nat.reduceBEq, Nat.reduceAdd, Nat.reduceLeDiff, reduceCtorEq]
        exact ⟨true, .mk ⟨_, rfl, hle, fun _ => by simp_all <;> intros <;> omega, fun h => by cases h⟩⟩
      refine ⟨_, mark_q _ _, ?_⟩
      simp only [r90_6e_gb, r90_6f, r90_6g, r90_6g_g, r90_6g_ga, sx, Nat.reduceBEq, Nat.reduceAdd, Nat.reduceLeDiff, reduceCtorEq]
      refine ⟨fun hh3 => ?_, fun hh3 => ?_⟩
      rotate_left
      · simp only [r90_6g_g, r90_6g_ga, r90_6g_gb, r90_6h, r90_6i, r90_6i_g, sx, Nat.reduceBEq, Nat.reduceAdd, Nat.reduceLeDiff, reduceCtorEq]
        simp only [r90_6j, r90_6k, r90_6k_g, r90_6k_ga, r90_6k_gb, sx, Nat.reduceBEq, Nat.reduceAdd, Nat.reduceLeDiff, reduceCtorEq]
        simp only [r90_6l, r90_6m, r90_6m_g, r90_6m_ga, r90_6m_gb, sx, Nat.reduceBEq, Nat.reduceAdd, Nat.reduceLeDiff, reduceCtorEq]
        simp only [r90_6n, r90_6o, r90_6o_g, sx, Nat.reduceBEq, Nat.reduceAdd, Nat.reduceLeDiff, reduceCtorEq]
        simp only [r90_6p, r90_6q, r90_6q_g, sx, Nat.reduceBEq, Nat.reduceAdd, Nat.reduceLeDiff, reduceCtorEq]
        simp only [r90_6r, sx, Nat.reduceBEq, Nat.reduceAdd, Nat.reduceLeDiff, reduceCtorEq]
        exact ⟨true, .mk ⟨_, rfl, hle, fun _ => by simp_all <;> intros <;> omega, fun h => by cases h⟩⟩
      refine ⟨_, key_q _ _, ?_⟩
      simp only [r90_6g_gb, r90_6h, r90_6i, r90_6i_g, sx, Nat.reduceBEq, Nat.reduceAdd, Nat.reduceLeDiff, reduceCtorEq]
      refine ⟨fun hh4 => ?_, fun hh4 => ?_⟩
      rotate_left
      · simp only [r90_6i_g, r90_6j, r90_6k, r90_6k_g, r90_6k_ga, r90_6k_gb, sx, Nat.reduceBEq, Nat.reduceAdd, Nat.reduceLeDiff, reduceCtorEq]
        simp only [r90_6l, r90_6m, r90_6m_g, r90_6m_ga, r90_6m_gb, sx, Nat.reduceBEq, Nat.reduceAdd, Nat.reduceLeDiff, reduceCtorEq]
        simp only [r90_6n, r90_6o, r90_6o_g, sx, Nat.reduceBEq, Nat.reduceAdd, Nat.reduceLeDiff, reduceCtorEq]
        simp only [r90_6p, r90_6q, r90_6q_g, sx, Nat.reduceBEq, Nat.reduceAdd, Nat.reduceLeDiff, reduceCtorEq]
        simp only [r90_6r, sx, Nat.reduceBEq, Nat.reduceAdd, Nat.reduceLeDiff, reduceCtorEq]
        exact ⟨true, .mk ⟨_, rfl, hle, fun _ => by simp_all <;> intros <;> omega, fun h => by cases h⟩⟩
      simp only [r90_6j, r90_6k, r90_6k_g, r90_6k_ga, sx, Nat.reduceBEq, Nat.reduceAdd, Nat.reduceLeDiff, reduceCtorEq]
      refine ⟨fun hh5 => ?_, fun hh5 => ?_⟩
      rotate_left
      · simp only [r90_6k_g, r90_6k_ga, r90_6k_gb, r90_6l, r90_6m, r90_6m_g, r90_6m_ga, r90_6m_gb, sx, Nat.reduceBEq, Nat.reduceAdd, Nat.reduceLeDiff, reduceCtorEq]
        simp only [r90_6n, r90_6o, r90_6o_g, sx, Nat.reduceBEq, Nat.reduceAdd, Nat.reduceLeDiff, reduceCtorEq]
        simp only [r90_6p, r90_6q, r90_6q_g, sx, Nat.reduceBEq, Nat.reduceAdd, Nat.reduceLeDiff, reduceCtorEq]
        simp only [r90_6r, sx, Nat.reduceBEq, Nat.reduceAdd, Nat.reduceLeDiff, reduceCtorEq]
        exact ⟨true, .mk ⟨_, rfl, hle, fun _ => by simp_all <;> intros <;> omega, fun h => by cases h⟩⟩
      refine CallW.q (every_k (hj.mono (mpl_mu (by assumption)))) ?_
      simp only [r90_6k_gb, r90_6l, r90_6m, r90_6m_g, r90_6m_ga, sx, Nat.reduceBEq, Nat.reduceAdd, Nat.reduceLeDiff, reduceCtorEq]
      refine ⟨fun hh6 => ?_, fun hh6 => ?_⟩
      rotate_left
      · simp only [r90_6m_g, r90_6m_ga, r90_6m_gb, r90_6n, r90_6o, r90_6o_g, sx, Nat.reduceBEq, Nat.reduceAdd, Nat.reduceLeDiff, reduceCtorEq]
        simp only [r90_6p, r90_6q, r90_6q_g, sx, Nat.reduceBEq, Nat.reduceAdd, Nat.reduceLeDiff, reduceCtorEq]
        simp only [r90_6r, sx, Nat.reduceBEq, Nat.reduceAdd, Nat.reduceLeDiff, reduceCtorEq]
        exact ⟨true, .mk ⟨_, rfl, hle, fun _ => by simp_all <;> intros <;> omega, fun h => by cases h⟩⟩
      refine CallW.q (every_k ha) ?_
      simp only [r90_6m_gb, r90_6n, r90_6o, r90_6o_g, sx, Nat.reduceBEq, Nat.reduceAdd, Nat.reduceLeDiff, reduceCtorEq]
      refine ⟨fun hh7 => ?_, fun hh7 => ?_⟩
      rotate_left
      · simp only [r90_6o_g, r90_6p, r90_6q, r90_6q_g, sx, Nat.reduceBEq, Nat.reduceAdd, Nat.reduceLeDiff, reduceCtorEq]
        simp only [r90_6r, sx, Nat.reduceBEq, Nat.reduceAdd, Nat.reduceLeDiff, reduceCtorEq]
        exact ⟨true, .mk ⟨_, rfl, hle, fun _ => by simp_all <;> intros <;> omega, fun h => by cases h⟩⟩
      simp only [r90_6p, r90_6q, r90_6q_g, sx, Nat.reduceBEq, Nat.reduceAdd, Nat.reduceLeDiff, reduceCtorEq]
      refine ⟨fun hh8 => ?_, fun hh8 => ?_⟩
      rotate_left
      · simp only [r90_6q_g, r90_6r, sx, Nat.reduceBEq, Nat.reduceAdd, Nat.reduceLeDiff, reduceCtorEq]
        exact ⟨true, .mk ⟨_, rfl, hle, fun _ => by simp_all <;> intros <;> omega, fun h => by cases h⟩⟩
      simp only [r90_6r, sx, Nat.reduceBEq, Nat.reduceAdd, Nat.reduceLeDiff, reduceCtorEq]
      refine ⟨_, .mk ⟨_, rfl, hle, fun h5 => ?_, fun h5 => ?_⟩⟩
      · simp_all <;> intros <;> omega
      · simp_all <;> intros <;> omega
    · rintro e bx own u1 ⟨r, ⟨S', rfl, hle1, hr1, hr2⟩⟩
      refine W_cnd rfl (fun hb => ?_) (fun hb => W_skip ?_)
      · refine W_seq (W_reg ?_)
        simp only [r90_7, sx, Nat.reduceBEq, Nat.reduceAdd, Nat.reduceLeDiff, reduceCtorEq]
        refine W_ret (RetQ.outQ hu hle1 rfl trivial ⟨?_, rfl, rfl⟩)
        rw [hs, hr1 hb]
      · refine W_reg ?_
        simp only [r90_8, sx, Nat.reduceBEq, Nat.reduceAdd, Nat.reduceLeDiff, reduceCtorEq]
        rw [wrapS hlt hmax]
        exact ⟨_, by omega, i + 1, by omega, rfl, .mk ⟨S', rfl, hle1, by rw [hs, hr2 hb]⟩⟩
  · have hge : ¬ i < css.length := by simpa using hc
    rw [List.drop_eq_nil_of_le (by omega)] at hs
    refine W_seq (W_reg ?_)
    simp only [r90_9, sx, Nat.reduceBEq, Nat.reduceAdd, Nat.reduceLeDiff, reduceCtorEq]
    refine W_ret (RetQ.outQ hu hle rfl trivial ⟨by rw [hs]; rfl, rfl, rfl⟩)
end Go.Proofs.YtenmmfkgopffgaaGreatDoor
