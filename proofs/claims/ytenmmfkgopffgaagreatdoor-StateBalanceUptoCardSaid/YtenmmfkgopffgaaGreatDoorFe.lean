/- That the machine does the acts, and a list of items in the text's order. -/
import Derived.Test.YtenmmfkgopffgaaGreatDoorFd
import Derived.Maps.AppendAt
set_option linter.unusedVariables false
set_option linter.unusedSimpArgs false
namespace Go.Proofs.YtenmmfkgopffgaaGreatDoor
open Go

def bspOk : Nat → List (Nat × Operand) → List Operand → Bool
  | _, [], [] => true
  | k, (i, y) :: ps, x :: xs => i == k && osame y x && bspOk (k + 1) ps xs
  | _, _, _ => false
def A.ok (P : Program) (op : Op) : A → Bool
  | .call f xs => match op with
    | .call { callee := .value (.func g), args, .. } => decide (g = f) && olsame args.toList xs
    | _ => false
  | .callv x xs => match op with
    | .call { callee := .value y, args, .. } => osame y x && olsame args.toList xs
    | _ => false
  | .box _ T z => match op with
    | .alloc T' => decide (T' = T) && (match P.info? T with
      | some i => (match i.zero with | some v => vlsame (vcells v) z | none => false)
      | none => false)
    | _ => false
  | .boxv _ T x => match op with
    | .box T' y => decide (T' = T) && osame y x
    | _ => false
  | .bst _ _ n x v => match op with
    | .store T y z => osame y x && osame z v && decide (szB P T = some n)
    | _ => false
  | .ost n x v => match op with
    | .store T y z => osame y x && osame z v && decide (szB P T = some n)
    | _ => false
  | .bsp T k xs => match op with
    | .buildSlice S len parts => (match P.underlying S with | some (.slice T') => decide (T' = T) | _ => false) && decide (szB P T = some k) && decide (len = xs.length) && bspOk 0 parts.toList xs && decide (len * k ≤ 16777216) && (match P.info? T with
      | some i => (match i.zero with | some v => decide ((vcells v).length = k) | none => false)
      | none => false)
    | _ => false
  | .app E k by_ x y => match op with
    | .call { callee := .builtin .append, args, argTypes } => olsame args.toList [x, y] && (match argTypes.toList with
      | [S, S'] => decide (S = S') && (match P.underlying S with | some (.slice T') => decide (T' = E) | _ => false)
      | _ => false) && decide (1 ≤ k) && (match P.info? E with
      | some i => decide (i.size = k) && decide (i.bytes = by_) && (match i.zero with | some v => decide ((vcells v).length = k) | none => false)
      | none => false)
    | _ => false
  | .mkm => match op with
    | .makeMap _ none => true
    | _ => false
  | .lkm z x i => match op with
    | .lookup S y j false => osame y x && osame j i && (match P.underlying S with
      | some (.map K V) => (match P.underlying K with | some (.int .i64) => true | _ => false) && (match P.info? V with
        | some f => (match f.zero with | some v => vsame v z | none => false)
        | none => false)
      | _ => false)
    | _ => false
  | .upm x i v => match op with
    | .mapUpdate S y j z => osame y x && osame j i && osame z v && (match P.underlying S with
      | some (.map K _) => (match P.underlying K with | some (.int .i64) => true | _ => false)
      | _ => false)
    | _ => false
def A.reads : A → List Operand
  | .call _ xs => xs
  | .callv x xs => x :: xs
  | .box .. => []
  | .boxv _ _ x => [x]
  | .bst _ _ _ x v => [x, v]
  | .ost _ x v => [x, v]
  | .bsp _ _ xs => xs
  | .app _ _ _ x y => [x, y]
  | .mkm => []
  | .lkm _ x i => [x, i]
  | .upm x i v => [x, i, v]

theorem callFunc_run {P : Program} {f : FuncId} (h : Ent P f) (args : Array Value) (w : World) : (callFunc f args).run P w = .ok (.enter f args) w := by
  obtain ⟨fn, h1, h2, h3⟩ := h
  simp only [callFunc, Sem.run_bind, run_program, Result.andThen_ok, h1, h2, h3, Bool.false_eq_true, if_false]
  rfl

/-- Storing cells into an owned block. -/
theorem run_storeCells' {P : Program} {b o : Nat} {T : TypeId} : ∀ (vs : List Value) (i : Nat) (cs : List Value) (w : World), all1 vs → o + i + vs.length ≤ cs.length → w.heap[b]? = some (.cells cs.toArray T (0, 0)) →
    ∃ w', (storeCells ⟨b, o, none⟩ vs i).run P w = .ok () w' ∧ w'.heap[b]? = some (.cells (setAt cs (o + i) vs).toArray T (0, 0)) ∧ (∀ c, c ≠ b → w'.heap[c]? = w.heap[c]?) ∧ w'.heap.size = w.heap.size ∧ w'.os = w.os ∧ w'.tape = w.tape ∧ w'.output = w.output
  | [], i, cs, w, _, _, h => ⟨w, rfl, by rw [setAt_nil]; exact h, fun _ _ => rfl, rfl, rfl, rfl, rfl⟩
  | v :: vs, i, cs, w, ha, hl, h => by
    simp only [List.length_cons] at hl
    have hc : w.cell? ⟨b, o + i, none⟩ = some (cs[o + i]'(by omega)) := by
      rw [cell_of_block h]; simp
    have hf : w.frozen? ⟨b, o + i, none⟩ = false := by simp [World.frozen?, h]
    have hb : (w.setCell ⟨b, o + i, none⟩ v).heap[b]? = some (.cells (cs.set (o + i) v).toArray T (0, 0)) := by
      simp only [World.setCell, Array.getElem?_modify, h]
      simp
    obtain ⟨w', h1, h2, h3, h4, h5, h6, h7⟩ := run_storeCells' (P := P) (o := o) (T := T) vs (i + 1) (cs.set (o + i) v) (w.setCell ⟨b, o + i, none⟩ v) ha.2 (by simp; omega) hb
    refine ⟨w', ?_, by rw [setAt_cons, Nat.add_assoc]; exact h2, fun c hcb => (h3 c hcb).trans ?_, ?_, h5, h6, h7⟩
    · simp only [storeCells, Sem.run_bind, Addr.add_plain, run_store _ _ _ _ _ ha.1, hc, hf, Bool.false_eq_true, if_false, Result.andThen_ok, h1]
    · simp only [World.setCell, Array.getElem?_modify]; rw [if_neg (fun q => hcb q.symm)]
    · rw [h4]; simp [World.setCell]

theorem perm_box {bx : List Box} {own : List HP} {n : Nat} {b : Box} (h : getB bx n = some b) : ∃ rest, List.Perm (props bx own) (b.hp :: rest) ∧ ∀ cs, List.Perm (props (setB bx n cs) own) (Box.hp ⟨b.nm, b.blk, cs, b.T⟩ :: rest) := by
  induction bx with
  | nil => simp [getB] at h
  | cons c r ih =>
    simp only [getB] at h
    cases e : (c.nm == n) with
    | true =>
      rw [e] at h; simp at h; subst h
      exact ⟨props r own, List.Perm.refl _, fun cs => by simp [setB, e, props]⟩
    | false =>
      rw [e] at h; simp at h
      obtain ⟨rest, p1, p2⟩ := ih h
      refine ⟨c.hp :: rest, ?_, fun cs => ?_⟩
      · exact ((p1.cons c.hp)).trans (List.Perm.swap _ _ _)
      · simp only [setB, e, cond_false]
        exact ((p2 cs).cons c.hp).trans (List.Perm.swap _ _ _)

/-! ### Slices laid, and grown -/
theorem setAt_app : ∀ (A B vs : List Value), vs.length ≤ B.length → setAt (A ++ B) A.length vs = A ++ (vs ++ B.drop vs.length)
  | A, B, [], _ => by rw [setAt_nil]; simp
  | [], b :: B, v :: vs, h => by
    have := setAt_app [] B vs (by simpa using h)
    simp at this
    simp [setAt, this]
  | a :: A, b :: B, v :: vs, h => by
    simp only [List.cons_append, List.length_cons, setAt]
    rw [setAt_app A (b :: B) (v :: vs) h]
    simp
  | A, [], v :: vs, h => by simp at h
theorem bsp_fill {place : Nat → Option (Nat × Nat)} {k : Nat} {a : Act} {e : Env} (hpl : ∀ i, place i = some (i * k, k)) : ∀ {ps : List (Nat × Operand)} {xs : List Operand} {vs : List Value} {i : Nat} {A B : List Value}, bspOk i ps xs = true → evs e xs = some vs → lenAll k vs →
    (∀ x ∈ xs, Opk e a x) → A.length = i * k → B.length = vs.length * k → Instr.fill place (A ++ B).toArray (ps.map fun (j, x) => (j, a.eval x)) = some (A ++ flatC vs).toArray
  | [], [], vs, i, A, B, _, hv, _, _, _, hB => by
    simp [evs] at hv; subst hv
    have : B = [] := List.eq_nil_of_length_eq_zero (by simpa using hB)
    subst this; rfl
  | [], _ :: _, vs, i, A, B, h, _, _, _, _, _ => by simp [bspOk] at h
  | _ :: _, [], vs, i, A, B, h, _, _, _, _, _ => by simp [bspOk] at h
  | (j, y) :: ps, x :: xs, vs, i, A, B, h, hv, hl, ho, hA, hB => by
    simp only [bspOk, Bool.and_eq_true] at h
    obtain ⟨⟨hj, hy⟩, h⟩ := h
    obtain rfl := osame_eq hy
    have hj : j = i := by simpa using hj
    subst hj
    simp only [evs] at hv
    cases e1 : ev e y with
    | none => rw [e1] at hv; cases hv
    | some v =>
      cases e2 : evs e xs with
      | none => rw [e1, e2] at hv; cases hv
      | some ws =>
        rw [e1, e2] at hv; simp at hv; subst hv
        have hx : a.eval y = v := ho y (by simp) _ e1
        simp only [List.length_cons, Nat.add_mul, Nat.one_mul] at hB
        simp only [List.map_cons, hx]
        rw [fill_cons (hpl j) hl.1 (by simp [hA]; omega)]
        have hs : setAt (A ++ B).toArray.toList (j * k) (vcells v) = (A ++ vcells v) ++ B.drop k := by
          show setAt (A ++ B) (j * k) (vcells v) = _
          rw [← hA, setAt_app A B (vcells v) (by rw [hl.1]; omega), hl.1, List.append_assoc]
        rw [hs]
        have := bsp_fill hpl (A := A ++ vcells v) (B := B.drop k) h e2 hl.2 (fun z hz => ho z (by simp [hz])) (by rw [List.length_append, hA, hl.1, Nat.add_mul, Nat.one_mul]) (by rw [List.length_drop]; omega)
        rw [this]
        simp [flatC]

theorem all1_mem : ∀ {l : List Value}, all1 l → ∀ q ∈ l, q.oneCell' = true
  | [], _, q, hq => by cases hq
  | v :: l, h, q, hq => by
    rcases List.mem_cons.1 hq with rfl | hq
    · exact h.1
    · exact all1_mem h.2 q hq
theorem Row.owns {E : TypeId} {k : Nat} {v : Value} {n : Nat} {xs : List Value} {L : List HP} {cx : Ctx} {u : Mem} {w : World} (i : Inv cx (Row E k v n xs :: L) u w) : w.ownsRow 0 E k v n xs := by
  obtain ⟨⟨h, ⟨h1, h2, sp, ⟨hl, hr⟩, s⟩, d, hh, _⟩, _⟩ := i
  refine ⟨hl, ?_⟩
  rcases hr with ⟨h1, h2, _⟩ | ⟨g, cap, cur, hv, hb, r⟩
  · exact .inl ⟨h1, h2⟩
  · refine .inr ⟨g, cap, cur, hv, Nat.zero_le _, ?_, r⟩
    refine hh g _ ?_
    rcases sp g with ⟨q, _⟩ | ⟨_, q⟩
    · rw [hb.1] at q; cases q
    · rw [q]; exact hb.1

theorem Inv.row_step {E : TypeId} {k : Nat} {v v' : Value} {n n' : Nat} {xs xs' : List Value} {L : List HP} {cx : Ctx} {u : Mem} {w w1 : World} (i : Inv cx (Row E k v n xs :: L) u w) (ho : w1.ownsRow 0 E k v' n' xs') (hg : w.grownBy w1 v.ownBlock)
    (hb : v'.ownBlock = v.ownBlock ∨ v'.ownBlock = some w.heap.size) : Inv cx (Row E k v' n' xs' :: L) u w1 := by
  obtain ⟨⟨h, ⟨h1, h2, sp, ⟨hl, hr⟩, s⟩, d, hh, hn⟩, hu, ule, unew, e1, e2, e3, g, kp⟩ := i
  -- the old row's block, if any
  have hold : ∀ q, v.ownBlock = some q → h1 q ≠ none := by
    intro q hq
    rcases hr with ⟨rfl, _⟩ | ⟨g, cap, cur, rfl, hb1, _⟩
    · simp [Value.ownBlock] at hq
    · simp [Value.ownBlock] at hq; subst hq; rw [hb1.1]; simp
  have h1h : ∀ b, h1 b ≠ none → h b ≠ none := fun b hb => by
    rcases sp b with ⟨q, _⟩ | ⟨_, q⟩
    · exact absurd q hb
    · rw [q]; exact hb
  have h2h : ∀ b o, h2 b = some o → h b = some o ∧ h1 b = none := fun b o hb => by
    rcases sp b with ⟨q1, q⟩ | ⟨q, _⟩
    · exact ⟨q.trans hb, q1⟩
    · rw [q] at hb; cases hb
  have hlt : ∀ b, h b ≠ none → b < w.heap.size := fun b hb => has_lt hh hb
  have hlu : ∀ b, u b ≠ none → b < w.heap.size := fun b hb => has_lt hu hb
  have keepu : has w1 u := fun b o hb => by
    have hlb := hlu b (by simp [hb])
    rw [hg.block b hlb (fun q => ?_)]
    · exact hu b o hb
    · have := hold b q.symm
      rcases d b with r | r
      · rw [r] at hb; cases hb
      · exact h1h b this r
  have keep2 : ∀ b o, h2 b = some o → w1.heap[b]? = some o := fun b o hb => by
    obtain ⟨q1, q2⟩ := h2h b o hb
    rw [hg.block b (hlt b (by simp [q1])) (fun q => hold b q.symm q2)]
    exact hh b o q1
  have kp' : ∀ b, b < cx.w.heap.size → cx.h b = none → w1.heap[b]? = cx.w.heap[b]? := fun b hb hc => by
    rw [hg.block b (Nat.lt_of_lt_of_le hb g) (fun q => ?_)]
    · exact kp b hb hc
    · rcases hn b (h1h b (hold b q.symm)) with r | r
      · exact r hc
      · omega
  obtain ⟨hl', ho⟩ := ho
  rcases ho with ⟨hv', hn'⟩ | ⟨g', cap, cur, hv', _, hg', r⟩
  · refine ⟨⟨h2, ⟨fun _ => none, h2, spl_of_emp (fun _ => rfl), ⟨hl', .inl ⟨hv', hn', fun _ => rfl⟩⟩, s⟩, fun b => ?_, keep2, fun b hb => ?_⟩, keepu, ule, unew, hg.os.trans e1, hg.tape.trans e2, hg.output.trans e3, Nat.le_trans g hg.size, kp'⟩
    · cases e : h2 b with
      | none => exact .inr rfl
      | some o =>
        rcases d b with q | q
        · exact .inl q
        · rw [(h2h b o e).1] at q; cases q
    · cases e : h2 b with
      | none => exact absurd e hb
      | some o => exact hn b (by rw [(h2h b o e).1]; simp)
  · have hgb : v'.ownBlock = some g' := by rw [hv']; rfl
    have h2g : h2 g' = none := by
      cases e : h2 g' with
      | none => rfl
      | some o =>
        obtain ⟨q1, q2⟩ := h2h g' o e
        rcases hb with q | q
        · rw [hgb] at q; exact absurd q2 (hold g' q.symm)
        · rw [hgb] at q; simp at q
          have := hlt g' (by simp [q1]); omega
    have hug : u g' = none := by
      cases e : u g' with
      | none => rfl
      | some o =>
        rcases hb with q | q
        · rw [hgb] at q
          rcases d g' with r | r
          · rw [r] at e; cases e
          · exact absurd r (h1h g' (hold g' q.symm))
        · rw [hgb] at q; simp at q
          have := hlu g' (by simp [e]); omega
    refine ⟨⟨fun x => if x = g' then some (.cells cur E (0, 0)) else h2 x, ⟨fun x => if x = g' then some (.cells cur E (0, 0)) else none, h2, fun x => ?_, ⟨hl', .inr ⟨g', cap, cur, hv', ⟨by simp, fun c hc => by simp [hc]⟩, r⟩⟩, s⟩, fun b => ?_, fun b o hbo => ?_, fun b hbo => ?_⟩, keepu, ule, unew, hg.os.trans e1, hg.tape.trans e2, hg.output.trans e3, Nat.le_trans g hg.size, kp'⟩
    · by_cases hx : x = g'
      · subst hx; right; simp [h2g]
      · left; simp [hx]
    · by_cases hx : b = g'
      · subst hx; exact .inl hug
      · simp only [hx, if_false]
        cases e : h2 b with
        | none => exact .inr rfl
        | some o =>
          rcases d b with q | q
          · exact .inl q
          · rw [(h2h b o e).1] at q; cases q
    · by_cases hx : b = g'
      · subst hx; simp at hbo; subst hbo; exact hg'
      · simp only [hx, if_false] at hbo; exact keep2 b o hbo
    · by_cases hx : b = g'
      · subst hx
        rcases hb with q | q
        · rw [hgb] at q; exact hn b (h1h b (hold b q.symm))
        · rw [hgb] at q; simp at q; right; omega
      · simp only [hx, if_false] at hbo
        cases e : h2 b with
        | none => exact absurd e hbo
        | some o => exact hn b (by rw [(h2h b o e).1]; simp)

theorem run_append_nil {P : Program} {w : World} {S E : TypeId} {i : TypeInfo} {k : Nat} {ty : TypeId} {v : Value} {n c : Nat} {xs : List Value} (hS : P.underlying S = some (.slice E)) (hi : P.info? E = some i) (hk : i.size = k) (ho : w.ownsRow 0 E k v n xs) (a : Option Addr) :
    (Builtin.append_ #[S, S] ty #[v, .slice a 0 c]).run P w = .ok v w := by
  have hl0 : ∀ ad : Addr, (loadCells ad (0 * k)).run P w = .ok #[] w := fun ad => by simp [loadCells, loadCellsFrom]
  rcases ho.2 with ⟨rfl, hn⟩ | ⟨g, cap, cur, rfl, _, _, hnc, _⟩
  · cases a <;> simp [Builtin.append_, run_underlying' hS, sizeOf, typeInfo, hi, Builtin.lenOf, Builtin.firstCells, loadCells, loadCellsFrom]
  · cases a <;> simp [Builtin.append_, run_underlying' hS, sizeOf, typeInfo, hi, Builtin.lenOf, Builtin.firstCells, hnc, storeCells, loadCells, loadCellsFrom]

theorem perm_own {bx : List Box} {own : List HP} {H : HP} {r : List HP} (p : List.Perm own (H :: r)) : List.Perm (props bx own) (H :: props bx r) := by
  unfold props
  exact (p.append_left _).trans List.perm_middle

theorem Inv.callW {P : Program} {cx : Ctx} {bx : List Box} {own : List HP} {u : Mem} {w : World} {f : FuncId} {vs : List Value} {R : Value → List Box → List HP → Mem → Prop} (hc : CallW P f vs R bx own u) (i : Inv cx (props bx own) u w) :
    Ent P f ∧ Calls P f vs.toArray w fun e w' => ∃ v bx' own' u', e = .returned v ∧ R v bx' own' u' ∧ Inv cx (props bx' own') u' w' := by
  obtain ⟨ownf, rest, u1, hst, Q, hf, hk⟩ := hc
  refine ⟨hf.1, ?_⟩
  have i' := hst _ _ i
  have i2 := i'
  obtain ⟨⟨h, hs, hd, hh, hn⟩, hu, _⟩ := i2
  obtain ⟨h1, h2, sp, s1, s2⟩ := Star_append.1 hs
  have hd1 : ∀ b, u1 b = none ∨ h1 b = none := fun b => by
    rcases hd b with q | q
    · exact .inl q
    · rcases sp b with ⟨r, _⟩ | ⟨_, r⟩
      · exact .inr r
      · exact .inr (r ▸ q)
  have hh1 : has w h1 := fun b o e => hh b o (by rcases sp b with ⟨q, _⟩ | ⟨_, q⟩
                                                 · rw [q] at e; cases e
                                                 · rw [q]; exact e)
  refine (hf.2 w h1 s1 hd1 hh1 hu).mono ?_
  rintro e w' ⟨v, own', u', he, hq, hi⟩
  have hle : mle u1 u' := hi.ule
  have j := Inv.call i' hs hd hh hn sp s1 s2 hi
  obtain ⟨bx', own'', u'', hg, hR⟩ := hk v own' u' hq hle
  exact ⟨v, bx', own'', u'', he, hR, hg _ _ j⟩

/-! ### Maps -/
theorem Inv.imap {b : Nat} {l : List (Int × Value)} {L : List HP} {cx : Ctx} {u : Mem} {w : World} (i : Inv cx (IMap b l :: L) u w) : ∃ es clock, w.heap[b]? = some (.map es clock) ∧ es.toList.map (fun e => (e.key, e.val)) = l.map (fun p => (Value.int .i64 p.1, p.2)) := by
  obtain ⟨⟨h, ⟨h1, h2, sp, ⟨es, clock, hb, he⟩, s⟩, d, hh, _⟩, _⟩ := i
  refine ⟨es, clock, hh b _ ?_, he⟩
  rcases sp b with ⟨q, _⟩ | ⟨_, q⟩
  · rw [hb.1] at q; cases q
  · rw [q]; exact hb.1
theorem Inv.imap_write {b : Nat} {l l' : List (Int × Value)} {L : List HP} {cx : Ctx} {u : Mem} {w : World} {es : Array MapEntry} {clock : Nat} {o' : Obj} (i : Inv cx (IMap b l :: L) u w) (hb : w.heap[b]? = some (.map es clock))
    (ho : ∃ es' c', o' = .map es' c' ∧ es'.toList.map (fun e => (e.key, e.val)) = l'.map (fun p => (Value.int .i64 p.1, p.2))) : Inv cx (IMap b l' :: L) u { w with heap := w.heap.setIfInBounds b o' } := by
  obtain ⟨es', c', rfl, hes⟩ := ho
  have hlt := (Array.getElem?_eq_some_iff.1 hb).1
  have i1 : Inv cx (Blk b (.map es clock) :: L) u w := by
    obtain ⟨⟨h, ⟨h1, h2, sp, ⟨es0, c0, hb0, he⟩, s⟩, d, hh, hn⟩, f1, f2, f3, f4, f5, f6, f7, f8⟩ := i
    have : w.heap[b]? = some (.map es0 c0) := hh b _ (by
      rcases sp b with ⟨q, _⟩ | ⟨_, q⟩
      · rw [hb0.1] at q; cases q
      · rw [q]; exact hb0.1)
    rw [hb] at this; simp at this; obtain ⟨rfl, rfl⟩ := this
    exact ⟨⟨h, ⟨h1, h2, sp, hb0, s⟩, d, hh, hn⟩, f1, f2, f3, f4, f5, f6, f7, f8⟩
  have i2 := Inv.write (o' := .map es' c') (w' := { w with heap := w.heap.setIfInBounds b (.map es' c') }) i1 (by simp [hlt]) (fun c hc => by simp [Array.getElem?_setIfInBounds_ne (fun q => hc q.symm)]) (by simp) rfl rfl rfl
  refine i2.conseq ?_
  rintro h ⟨h1, h2, sp, hb, s⟩
  exact ⟨h1, h2, sp, ⟨es', c', hb, hes⟩, s⟩
theorem checkKey_int {P : Program} {K : TypeId} {k : IntKind} {j : Int} {b : Bool} {w : World} (hK : P.underlying K = some (.int .i64)) : (Instr.checkKey b 10000 K (.int k j)).run P w = .ok () w := by
  show (Instr.checkKey b (9999 + 1) K (.int k j)).run P w = _
  unfold Instr.checkKey
  simp only [Sem.run_bind, run_underlying' hK, Result.andThen_ok]
  rfl
theorem findNow_map (d : TypeDesc) (hd : d = .int .i64) (j : Int) : ∀ (es : List MapEntry) (l : List (Int × Value)) (i : Nat), es.map (fun e => (e.key, e.val)) = l.map (fun p => (Value.int .i64 p.1, p.2)) →
    (Instr.findNow d (.int .i64 j) es i = some none ∧ ∀ z, mget l j z = z) ∨ ∃ i0 v0, Instr.findNow d (.int .i64 j) es i = some (some (i + i0, v0)) ∧ (∀ z, mget l j z = v0)
  | [], [], i, _ => .inl ⟨rfl, fun _ => rfl⟩
  | [], _ :: _, i, h => by simp at h
  | _ :: _, [], i, h => by simp at h
  | e :: es, (a, v) :: l, i, h => by
    simp only [List.map_cons, List.cons.injEq, Prod.mk.injEq] at h
    obtain ⟨⟨hk, hv⟩, h⟩ := h
    subst hd
    simp only [Instr.findNow, hk, Instr.sameNow, if_true]
    cases hja : (j == a) with
    | true =>
      right
      exact ⟨0, e.val, rfl, fun z => by simp [mget, hja, hv]⟩
    | false =>
      rcases findNow_map (.int .i64) rfl j es l (i + 1) h with ⟨h1, h2⟩ | ⟨i0, v0, h1, h2⟩
      · exact .inl ⟨h1, fun z => by simp [mget, hja, h2 z]⟩
      · exact .inr ⟨i0 + 1, v0, by simp only [h1]; congr 3; omega, fun z => by simp [mget, hja, h2 z]⟩
theorem findNow_put (j : Int) (v : Value) (c : Nat) : ∀ (es : List MapEntry) (l : List (Int × Value)) (i : Nat), es.map (fun e => (e.key, e.val)) = l.map (fun p => (Value.int .i64 p.1, p.2)) →
    (Instr.findNow (.int .i64) (.int .i64 j) es i = some none ∧ (es ++ [({ key := .int .i64 j, val := v, born := c } : MapEntry)]).map (fun (e : MapEntry) => (e.key, e.val)) = (mput l j v).map (fun p => (Value.int .i64 p.1, p.2))) ∨
    ∃ i0 v0, Instr.findNow (.int .i64) (.int .i64 j) es i = some (some (i + i0, v0)) ∧ (∃ e0, es[i0]? = some e0 ∧ e0.key = .int .i64 j) ∧ (es.modify i0 fun (e : MapEntry) => { e with key := .int .i64 j, val := v }).map (fun (e : MapEntry) => (e.key, e.val)) = (mput l j v).map (fun p => (Value.int .i64 p.1, p.2))
  | [], [], i, _ => .inl ⟨rfl, rfl⟩
  | [], _ :: _, i, h => by simp at h
  | _ :: _, [], i, h => by simp at h
  | e :: es, (a, x) :: l, i, h => by
    simp only [List.map_cons, List.cons.injEq, Prod.mk.injEq] at h
    obtain ⟨⟨hk, hv⟩, h⟩ := h
    simp only [Instr.findNow, hk, Instr.sameNow, if_true]
    cases hja : (j == a) with
    | true =>
      have : j = a := by simpa using hja
      subst this
      right
      exact ⟨0, e.val, rfl, ⟨e, rfl, hk⟩, by simp [mput, h]⟩
    | false =>
      rcases findNow_put j v c es l (i + 1) h with ⟨h1, h2⟩ | ⟨i0, v0, h1, ⟨e0, h3, h4⟩, h2⟩
      · exact .inl ⟨h1, by simp [mput, hja, hk, hv] at h2 ⊢; exact h2⟩
      · exact .inr ⟨i0 + 1, v0, by simp only [h1]; congr 3; omega, ⟨e0, by simpa using h3, h4⟩, by simp [mput, hja, hk, hv, h2]⟩
theorem update_map {P : Program} {S K V : TypeId} {w : World} {b : Nat} {es : Array MapEntry} {clock : Nat} {l : List (Int × Value)} (hu : P.underlying S = some (.map K V)) (hK : P.underlying K = some (.int .i64)) (hb : w.heap[b]? = some (.map es clock))
    (hes : es.toList.map (fun e => (e.key, e.val)) = l.map (fun p => (Value.int .i64 p.1, p.2))) (j : Int) (v : Value) :
    ∃ o', (Instr.mapUpdate S (.map (some b)) (.int .i64 j) v).run P w = .ok () { w with heap := w.heap.setIfInBounds b o' } ∧ ∃ es' c', o' = .map es' c' ∧ es'.toList.map (fun e => (e.key, e.val)) = (mput l j v).map (fun p => (Value.int .i64 p.1, p.2)) := by
  rcases findNow_put j v clock es.toList l 0 hes with ⟨hf, h2⟩ | ⟨i0, v0, hf, ⟨e0, h3, h4⟩, h2⟩
  · refine ⟨.map (es.push { key := .int .i64 j, val := v, born := clock }) (clock + 1), ?_, _, _, rfl, by simpa using h2⟩
    simp only [Instr.mapUpdate, Sem.run_bind, run_underlying' hu, Result.andThen_ok, getObj, Sem.run, hb, checkKey_int hK, Instr.findKey, run_underlying' hK, hf, Sem.run_pure]
    simp [setObj, Sem.run, hb]
  · refine ⟨.map (es.modify i0 fun e => { e with key := .int .i64 j, val := v }) clock, ?_, _, _, rfl, by simpa using h2⟩
    have hkey : ((es[0 + i0]?).map (·.key)).getD (.int .i64 j) = .int .i64 j := by
      have : es[0 + i0]? = some e0 := by rw [Nat.zero_add]; simpa using h3
      rw [this]; simpa using h4
    simp only [Instr.mapUpdate, Sem.run_bind, run_underlying' hu, Result.andThen_ok, getObj, Sem.run, hb, checkKey_int hK, Instr.findKey, run_underlying' hK, hf, Sem.run_pure]
    simp only [hkey]
    have hk : (Instr.keyThatStays (.int .i64 j) (.int .i64 j)).run P w = .ok (.int .i64 j) w := by
      simp [Instr.keyThatStays, Instr.sameBits]
    simp only [hk, Result.andThen_ok, Nat.zero_add]
    simp [setObj, Sem.run, hb]

theorem Oper.wp_value {P : Program} {o : Oper} {a : Act} {w w' : World} {v : Value} {next : Act → World → Prop} {Q : Exit → Act → World → Prop} (h : (execOp a.eval o).run P w = .ok (.value v) w') (k : next (a.put o.dst v) w') : o.wp P a w next Q := by
  unfold Oper.wp; rw [h]; exact k

theorem A.sound {P : Program} {o : Oper} {act : A} {e : Env} {bx : List Box} {own : List HP} {u : Mem} {cx : Ctx} {a : Act} {w : World} {R : Value → List Box → List HP → Mem → Prop} {next : Act → World → Prop} {Q : Exit → Act → World → Prop}
    (hok : act.ok P o.op = true) (hv : act.wp P e bx own u R) (hr : ∀ x ∈ act.reads, Opk e a x) (i : Inv cx (props bx own) u w)
    (k : ∀ v bx' own' u' w', R v bx' own' u' → Inv cx (props bx' own') u' w' → next (a.put o.dst v) w') : o.wp P a w next Q := by
  cases act with
  | call f xs =>
    simp only [A.wp] at hv
    split at hv
    rotate_left
    · exact hv.elim
    rename_i vs evs'
    simp only [A.ok] at hok
    split at hok
    rotate_left
    · cases hok
    rename_i g args ats hop
    simp at hok
    obtain ⟨rfl, hx⟩ := hok
    obtain rfl := olsame_eq hx
    have hargs : args.map a.eval = vs.toArray := by
      have := evs_map evs' (fun x hx => hr x (by simpa [A.reads] using hx))
      apply Array.ext'; simpa using this
    obtain ⟨hent, hc⟩ := i.callW hv
    unfold Oper.wp
    have : (execOp a.eval o).run P w = .ok (.enter g vs.toArray) w := by
      unfold execOp; simp only [hop]
      simp [resolve, Deferred.ofValue, Act.eval, invoke, callFunc_run hent, hargs]
    rw [this]
    show Calls P g vs.toArray w _
    refine hc.mono ?_
    rintro e' w' ⟨v, bx', own', u', rfl, hR, hi⟩
    exact k v bx' own' u' w' hR hi
  | callv x xs =>
    simp only [A.wp] at hv
    split at hv
    rotate_left
    · exact hv.elim
    rename_i f first caps ex
    split at hv
    rotate_left
    · exact hv.elim
    rename_i vs evs'
    simp only [A.ok] at hok
    split at hok
    rotate_left
    · cases hok
    rename_i y args ats hop
    simp at hok
    obtain ⟨hy, hx⟩ := hok
    obtain rfl := osame_eq hy
    obtain rfl := olsame_eq hx
    have hargs : args.map a.eval = vs.toArray := by
      have := evs_map evs' (fun x hx => hr x (by simp only [A.reads]; exact List.mem_cons_of_mem _ hx))
      apply Array.ext'; simpa using this
    have hy := hr y (by simp [A.reads]) _ ex
    obtain ⟨hent, hc⟩ := i.callW hv
    unfold Oper.wp
    have : (execOp a.eval o).run P w = .ok (.enter f (first.toList ++ vs ++ caps.toList).toArray) w := by
      unfold execOp; simp only [hop]
      simp [resolve, hy, Deferred.ofValue, invoke, callFunc_run hent, hargs]
    rw [this]
    show Calls P f _ w _
    refine hc.mono ?_
    rintro e' w' ⟨v, bx', own', u', rfl, hR, hi⟩
    exact k v bx' own' u' w' hR hi
  | box nm T z =>
    simp only [A.wp] at hv
    simp only [A.ok] at hok
    split at hok
    rotate_left
    · cases hok
    rename_i T' hop
    simp only [Bool.and_eq_true, decide_eq_true_eq] at hok
    obtain ⟨rfl, hok⟩ := hok
    split at hok
    rotate_left
    · cases hok
    rename_i inf hinf
    split at hok
    rotate_left
    · cases hok
    rename_i zv hz
    have hz2 := vlsame_eq hok
    have hcells : zv.cells = z.toArray := by apply Array.ext'; rw [vcells_eq]; simpa using hz2
    refine Oper.wp_value (v := .pointer (some ⟨w.heap.size, 0, none⟩)) (w' := { w with heap := w.heap.push (.cells z.toArray T') }) ?_ (k _ _ _ _ _ (hv w.heap.size) ?_)
    · unfold execOp; simp only [hop]
      simp [Instr.alloc, zeroValue, typeInfo, hinf, hz, newVar, newRow, hcells]
    · exact i.alloc _
  | boxv nm T x =>
    simp only [A.wp] at hv
    split at hv
    rotate_left
    · exact hv.elim
    rename_i v ex
    simp only [A.ok] at hok
    split at hok
    rotate_left
    · cases hok
    rename_i T' y hop
    simp only [Bool.and_eq_true, decide_eq_true_eq] at hok
    obtain ⟨rfl, hy⟩ := hok
    obtain rfl := osame_eq hy
    have hx := hr y (by simp [A.reads]) _ ex
    have hcells : v.cells = (vcells v).toArray := by apply Array.ext'; rw [vcells_eq]
    refine Oper.wp_value (v := .pointer (some ⟨w.heap.size, 0, none⟩)) (w' := { w with heap := w.heap.push (.cells (vcells v).toArray T') }) ?_ (k _ _ _ _ _ (hv w.heap.size) ?_)
    · unfold execOp; simp only [hop]
      simp [hx, Instr.box, newVar, newRow, hcells]
    · exact i.alloc _
  | bst b off n x v =>
    simp only [A.wp] at hv
    split at hv
    rotate_left
    · exact hv.elim
    rename_i bb p q eb ex eq
    obtain ⟨⟨rfl, hn, hle, h1⟩, hR⟩ := hv
    simp only [A.ok] at hok
    split at hok
    rotate_left
    · cases hok
    rename_i T y z hop
    simp only [Bool.and_eq_true, decide_eq_true_eq] at hok
    obtain ⟨⟨hy, hz⟩, hsz⟩ := hok
    obtain rfl := osame_eq hy
    obtain rfl := osame_eq hz
    have hx := hr y (by simp [A.reads]) _ ex
    have hq := hr z (by simp [A.reads]) _ eq
    obtain ⟨rest, p1, p2⟩ := perm_box (own := own) eb
    have i' := i.perm p1
    have hb := i.at_ (mem_props (own := own) eb)
    obtain ⟨w', e1, e2, e3, e4, e5, e6, e7⟩ := run_storeCells' (P := P) (o := off) (vcells q) 0 bb.cells w h1 (by omega) hb
    have hsize : q.cells.size = n := by rw [← hn, ← vcells_eq, Array.length_toList]
    unfold Oper.wp
    have : (execOp a.eval o).run P w = .ok .skip w' := by
      unfold execOp; simp only [hop]
      simp [hx, hq, Instr.storeAt, Instr.sureAddr, storeVar, run_sizeOf' hsz, hsize, vcells_eq, e1]
    rw [this]
    show next (a.put o.dst undef) w'
    refine k _ _ _ _ _ hR ?_
    have hwr := Inv.write (o' := .cells (setAt bb.cells off (vcells q)).toArray bb.T (0, 0)) i' (by simpa using e2) e3 e4 e5 e6 e7
    exact Inv.perm hwr (p2 (setAt bb.cells off (vcells q))).symm
  | ost n x v =>
    simp only [A.wp] at hv
    split at hv
    rotate_left
    · exact hv.elim
    rename_i b off sp q ex eq
    obtain ⟨nm, bb, eb, rfl, rfl, hn, hle, h1, hR⟩ := hv
    simp only [A.ok] at hok
    split at hok
    rotate_left
    · cases hok
    rename_i T y z hop
    simp only [Bool.and_eq_true, decide_eq_true_eq] at hok
    obtain ⟨⟨hy, hz⟩, hsz⟩ := hok
    obtain rfl := osame_eq hy
    obtain rfl := osame_eq hz
    have hx := hr y (by simp [A.reads]) _ ex
    have hq := hr z (by simp [A.reads]) _ eq
    obtain ⟨rest, p1, p2⟩ := perm_box (own := own) eb
    have i' := i.perm p1
    have hb := i.at_ (mem_props (own := own) eb)
    obtain ⟨w', e1, e2, e3, e4, e5, e6, e7⟩ := run_storeCells' (P := P) (o := off) (vcells q) 0 bb.cells w h1 (by omega) hb
    have hsize : q.cells.size = n := by rw [← hn, ← vcells_eq, Array.length_toList]
    unfold Oper.wp
    have : (execOp a.eval o).run P w = .ok .skip w' := by
      unfold execOp; simp only [hop]
      simp [hx, hq, Instr.storeAt, Instr.sureAddr, storeVar, run_sizeOf' hsz, hsize, vcells_eq, e1]
    rw [this]
    show next (a.put o.dst undef) w'
    refine k _ _ _ _ _ hR ?_
    have hwr := Inv.write (o' := .cells (setAt bb.cells off (vcells q)).toArray bb.T (0, 0)) i' (by simpa using e2) e3 e4 e5 e6 e7
    exact Inv.perm hwr (p2 (setAt bb.cells off (vcells q))).symm
  | bsp T m xs =>
    simp only [A.wp] at hv
    split at hv
    rotate_left
    · exact hv.elim
    rename_i vs evs'
    have hlen : lenAll m vs := by
      rcases hv with ⟨h, _⟩ | ⟨h, _⟩
      · exact h
      · subst h; trivial
    simp only [A.ok] at hok
    split at hok
    rotate_left
    · cases hok
    rename_i S len parts hop
    simp only [Bool.and_eq_true, decide_eq_true_eq] at hok
    obtain ⟨⟨⟨⟨⟨hS, hsz⟩, hlx⟩, hbs⟩, hsmall⟩, hz⟩ := hok
    have hS : P.underlying S = some (.slice T) := by
      split at hS
      · rename_i T' hT'; have := of_decide_eq_true hS; subst this; exact hT'
      · cases hS
    split at hz
    rotate_left
    · cases hz
    rename_i inf hinf
    split at hz
    rotate_left
    · cases hz
    rename_i zv hzv
    have hzl := of_decide_eq_true hz
    have hvl : vs.length = xs.length := by
      have := evs_map (a := a) evs' (fun z hz => hr z hz)
      rw [← this]; simp
    have hzs : zv.cells.size = m := by rw [← hzl, ← vcells_eq, Array.length_toList]
    have hpl : ∀ i, (fun i => some (i * m, m)) i = some (i * m, m) := fun _ => rfl
    have hfill : ∀ z : Array Value, Instr.fill (fun i => some (i * m, m)) ((Array.range (len * m)).map (z[· % z.size]!)) (parts.map fun (x : Nat × Operand) => (x.1, a.eval x.2)).toList = some (flatC vs).toArray := fun z => by
      have h1 := bsp_fill (a := a) (e := e) (place := fun i => some (i * m, m)) hpl (A := []) (B := ((Array.range (len * m)).map (z[· % z.size]!)).toList) hbs evs' hlen (fun x hx => hr x hx) (by simp) (by simp [hlx, hvl])
      have h2 : (parts.map fun (x : Nat × Operand) => (x.1, a.eval x.2)).toList = parts.toList.map fun (x : Nat × Operand) => (x.1, a.eval x.2) := by simp
      have hB : ((Array.range (len * m)).map (z[· % z.size]!)) = ([] ++ ((Array.range (len * m)).map (z[· % z.size]!)).toList).toArray := by rw [List.nil_append, Array.toArray_toList]
      rw [h2, hB]
      exact h1
    have i1 := i.alloc (.cells (flatC vs).toArray T (0, 0))
    obtain ⟨i2, hle⟩ := i1.freeze
    have hK : next (a.put o.dst (.slice (some ⟨w.heap.size, 0, none⟩) vs.length vs.length)) { w with heap := w.heap.push (.cells (flatC vs).toArray T) } := by
      rcases hv with ⟨_, hR⟩ | ⟨hnil, hR⟩
      · exact k _ _ _ _ _ (hR w.heap.size _ hle (by simp)) i2
      · subst hnil
        refine k _ _ _ _ _ (hR w.heap.size) ?_
        refine Inv.perm (L := Row T m (.slice (some ⟨w.heap.size, 0, none⟩) 0 0) 0 [] :: props bx own) ?_ (by unfold props; exact List.perm_middle.symm)
        refine i1.conseq fun h => ?_
        rintro ⟨h1, h2, sp, hb, s2⟩
        exact ⟨h1, h2, sp, ⟨by simp, .inr ⟨_, 0, _, rfl, hb, by omega, by simp [maxLen], by simp [flatC], by simp⟩⟩, s2⟩
    refine Oper.wp_value (v := .slice (some ⟨w.heap.size, 0, none⟩) len len) (w' := { w with heap := w.heap.push (.cells (flatC vs).toArray T) }) ?_ (hK |> fun q => ?_)
    · unfold execOp; simp only [hop]
      have h24 : ¬ (len * m > 2 ^ 24) := by omega
      by_cases h0 : len * m = 0
      · simp only [Instr.buildSlice, Sem.run_bind, run_underlying' hS, Result.andThen_ok, run_sizeOf' hsz, h24, if_false]
        simp only [h0, if_true, pure_bind]
        have hf0 := hfill #[]
        rw [h0] at hf0
        rw [hf0]
        simp [newRow]
      · simp only [Instr.buildSlice, Sem.run_bind, run_underlying' hS, Result.andThen_ok, run_sizeOf' hsz, h24, if_false]
        simp only [h0, if_false, Sem.run_bind, zeroValue, typeInfo, run_program, Result.andThen_ok, hinf, Sem.run_pure, hzv]
        rw [hfill]
        simp [newRow]
    · rw [hlx, ← hvl]; exact q
  | app E m by_ x y =>
    simp only [A.wp] at hv
    split at hv
    rotate_left
    · exact hv.elim
    rename_i v ad ml c0 ex ey
    obtain ⟨n, xs, own0, news, hp, hnl, hsrc, h1, hby, hmx, hR⟩ := hv
    simp only [A.ok] at hok
    split at hok
    rotate_left
    · cases hok
    rename_i args ats hop
    simp only [Bool.and_eq_true] at hok
    obtain ⟨⟨⟨hxy, hS⟩, hk1⟩, hinf⟩ := hok
    have hk1 := of_decide_eq_true hk1
    have hargs := olsame_eq hxy
    have hargs : args = #[x, y] := by apply Array.ext'; simpa using hargs
    subst hargs
    split at hS
    rotate_left
    · cases hS
    rename_i S S' hats
    simp only [Bool.and_eq_true, decide_eq_true_eq] at hS
    obtain ⟨rfl, hS⟩ := hS
    have hats : ats = #[S, S] := by apply Array.ext'; simpa using hats
    subst hats
    have hS : P.underlying S = some (.slice E) := by
      split at hS
      · rename_i T' hT'; have := of_decide_eq_true hS; subst this; exact hT'
      · cases hS
    split at hinf
    rotate_left
    · cases hinf
    rename_i inf hinfo
    simp only [Bool.and_eq_true, decide_eq_true_eq] at hinf
    obtain ⟨⟨hsz, hbyt⟩, hz⟩ := hinf
    split at hz
    rotate_left
    · cases hz
    rename_i zv hzv
    have hzl := of_decide_eq_true hz
    have hzs : zv.cells.size = m := by rw [← hzl, ← vcells_eq, Array.length_toList]
    have hx := hr x (by simp [A.reads]) _ ex
    have hy := hr y (by simp [A.reads]) _ ey
    have i' := i.perm (perm_own (bx := bx) hp)
    have hown := Row.owns i'
    have hrun : ∃ v' w1, (Builtin.append_ #[S, S] o.type #[v, .slice ad ml c0]).run P w = .ok v' w1 ∧ w1.ownsRow 0 E m v' (n + ml) (xs ++ news) ∧ w.grownBy w1 v.ownBlock ∧ (v'.ownBlock = v.ownBlock ∨ v'.ownBlock = some w.heap.size) := by
      by_cases h0 : ml = 0
      · subst h0
        have hn0 : news = [] := List.eq_nil_of_length_eq_zero (by simpa using hnl)
        subst hn0
        exact ⟨v, w, run_append_nil hS hinfo hsz hown ad, by simpa using hown, ⟨rfl, rfl, rfl, Nat.le_refl _, fun _ _ _ => rfl⟩, .inl rfl⟩
      · obtain ⟨b, of, rfl, c, T0, fz, hb, hc⟩ := hsrc (by omega)
        have hblk := i.hu _ _ hb
        obtain ⟨v', w1, r1, r2, r3, _, r5⟩ := run_append_own_at (P := P) w 0 S o.type E inf zv m by_ hS hinfo hzv hsz hbyt hzs (by omega) v n xs hown ⟨b, of, none⟩ ml c0 news hnl (fun j q hj => by
            rw [Addr.add_plain, cell_of_block hblk]
            rw [← hc, List.getElem?_take] at hj
            split at hj
            · rw [List.getElem?_drop] at hj; simpa using hj
            · cases hj) (fun q hq => all1_mem h1 q hq) (by simp only [maxLen]; omega) hby (Nat.zero_le _)
        exact ⟨v', w1, r1, r2, r3, r5⟩
    obtain ⟨v', w1, r1, r2, r3, r5⟩ := hrun
    have hsl : ∃ a c, v' = .slice a (n + ml) c := by
      rcases r2.2 with ⟨h1, h2⟩ | ⟨g, cap, cur, h1, _⟩
      · exact ⟨none, 0, by rw [h1, h2]⟩
      · exact ⟨_, cap, h1⟩
    refine Oper.wp_value (v := v') (w' := w1) ?_ (k _ _ _ _ _ (hR v' hsl) ((i'.row_step r2 r3 r5).perm (perm_own (List.Perm.refl _)).symm))
    unfold execOp; simp only [hop]
    simp [resolve, invoke, builtin, hx, hy, r1]
  | mkm =>
    simp only [A.wp] at hv
    simp only [A.ok] at hok
    split at hok
    rotate_left
    · cases hok
    rename_i S hop
    have i1 := i.alloc (.map #[] 0)
    refine Oper.wp_value (v := .map (some w.heap.size)) (w' := { w with heap := w.heap.push (.map #[] 0) }) ?_ (k _ _ _ _ _ (hv w.heap.size) ?_)
    · unfold execOp; simp only [hop]
      simp [Instr.makeMap]
    · refine (i1.conseq (L' := IMap w.heap.size [] :: props bx own) ?_).perm (perm_own (List.Perm.refl _)).symm
      rintro h ⟨h1, h2, sp, hb, s⟩
      exact ⟨h1, h2, sp, ⟨#[], 0, hb, rfl⟩, s⟩
  | lkm z x j =>
    simp only [A.wp] at hv
    split at hv
    rotate_left
    · exact hv.elim
    rename_i b kk jj ex ej
    obtain ⟨l, own0, rfl, hp, hR⟩ := hv
    simp only [A.ok] at hok
    split at hok
    rotate_left
    · cases hok
    rename_i S y q hop
    simp only [Bool.and_eq_true] at hok
    obtain ⟨⟨hy, hq⟩, hS⟩ := hok
    obtain rfl := osame_eq hy; obtain rfl := osame_eq hq
    split at hS
    rotate_left
    · cases hS
    rename_i K V hu
    simp only [Bool.and_eq_true] at hS
    obtain ⟨hK, hV⟩ := hS
    have hK : P.underlying K = some (.int .i64) := by
      split at hK
      · assumption
      · cases hK
    split at hV
    rotate_left
    · cases hV
    rename_i inf hinf
    split at hV
    rotate_left
    · cases hV
    rename_i zv hzv
    have hzv' := vsame_eq hV
    subst hzv'
    have hx := hr y (by simp [A.reads]) _ ex
    have hj := hr q (by simp [A.reads]) _ ej
    have i' := i.perm (perm_own (bx := bx) hp)
    obtain ⟨es, clock, hb, hes⟩ := i'.imap
    refine Oper.wp_value (v := mget l jj zv) (w' := w) ?_ (k _ _ _ _ _ hR i)
    have hfind := findNow_map (TypeDesc.int .i64) rfl jj es.toList l 0 hes
    unfold execOp; simp only [hop]
    simp only [Instr.lookup, hx, hj, Sem.run_bind, run_underlying' hu, Result.andThen_ok, getObj, Sem.run, hb, checkKey_int hK, Instr.findKey, run_underlying' hK, Sem.run_pure]
    rcases hfind with ⟨hf, hg⟩ | ⟨i0, v0, hf, hg⟩
    · rw [hf]
      simp [zeroValue, typeInfo, hinf, hzv, hg zv]
    · rw [hf]
      simp [hg zv]
  | upm x j y =>
    simp only [A.wp] at hv
    split at hv
    rotate_left
    · exact hv.elim
    rename_i b kk jj v ex ej ey
    obtain ⟨l, own0, rfl, hp, hR⟩ := hv
    simp only [A.ok] at hok
    split at hok
    rotate_left
    · cases hok
    rename_i S y1 q z hop
    simp only [Bool.and_eq_true] at hok
    obtain ⟨⟨⟨hy, hq⟩, hz⟩, hS⟩ := hok
    obtain rfl := osame_eq hy; obtain rfl := osame_eq hq; obtain rfl := osame_eq hz
    split at hS
    rotate_left
    · cases hS
    rename_i K V hu
    have hK : P.underlying K = some (.int .i64) := by
      split at hS
      · assumption
      · cases hS
    have hx := hr y1 (by simp [A.reads]) _ ex
    have hj := hr q (by simp [A.reads]) _ ej
    have hy := hr z (by simp [A.reads]) _ ey
    have i' := i.perm (perm_own (bx := bx) hp)
    obtain ⟨es, clock, hb, hes⟩ := i'.imap
    obtain ⟨o', hrun, hes'⟩ := update_map (P := P) hu hK hb hes jj v
    unfold Oper.wp
    have : (execOp a.eval o).run P w = .ok .skip { w with heap := w.heap.setIfInBounds b o' } := by
      unfold execOp; simp only [hop]
      simp [hx, hj, hy, hrun]
    rw [this]
    show next (a.put o.dst undef) _
    exact k _ _ _ _ _ hR ((i'.imap_write hb hes').perm (perm_own (List.Perm.refl _)).symm)


/-! ### The check of a list of items -/
def gdOf (ops : Array Oper) (o : Oper) : Option (Option (Nat × Bool)) :=
  match o.guard with
  | none => some none
  | some (j, want) => match ops[j]? with
    | some oj => match oj.dst with
      | some g => some (some (g, want))
      | none => none
    | none => none

/-- the conditions that an item must bear: those of its operation's guard -/
def csFits (σ : List (Nat × Gd)) (gd : Option (Nat × Bool)) (cs : Gd) : Bool :=
  match gd with
  | none => cs.isEmpty
  | some (g, want) => subG cs (csOf σ g ++ [(g, want)]) && subG (csOf σ g ++ [(g, want)]) cs

def ldOk (P : Program) (op : Op) (x : Operand) (k : Nat) (agg : Bool) : Bool := match op with
  | .load T y => osame y x && decide (aggB P T = some agg) && decide (szB P T = some k) && (agg || decide (k = 1)) && decide (1 ≤ k)
  | _ => false
def qcOk (op : Op) (x : Operand) (xs : List Operand) : Bool := match op with
  | .call { callee := .value y, args, .. } => osame y x && olsame args.toList xs
  | _ => false
def dOk (n : Nat) (gs : List Nat) : Option Nat → Bool
  | some d => decide (d < n) && decide (d ∉ gs)
  | none => true
def sgd : Option Nat → List (Nat × Gd) → List (Nat × Gd)
  | some d, σ => (d, []) :: σ
  | none, σ => σ
/-- one item against one operation (its guard gd told apart) -/
def chk1 (P : Program) (n : Nat) (σ : List (Nat × Gd)) (gs : List Nat) (gd : Option (Nat × Bool)) (o : Oper) : I0 → Option (List (Nat × Gd) × List Nat)
  | .p d cs op => if o.dst = some d ∧ d < n ∧ d ∉ gs ∧ csFits σ gd cs = true ∧ (cs.map (·.1)).contains d = false ∧ op.ok P o.op = true ∧ readsOK σ cs op = true then some ((d, cs) :: σ, cs.map (·.1) ++ gs) else none
  | .ld d cs x k agg => if o.dst = some d ∧ d < n ∧ d ∉ gs ∧ csFits σ gd cs = true ∧ (cs.map (·.1)).contains d = false ∧ ldOk P o.op x k agg = true ∧ opOK σ cs x = true then some ((d, cs) :: σ, cs.map (·.1) ++ gs) else none
  | .qc d cs x xs => if o.dst = some d ∧ d < n ∧ d ∉ gs ∧ csFits σ gd cs = true ∧ (cs.map (·.1)).contains d = false ∧ qcOk o.op x xs = true ∧ (x :: xs).all (opOK σ cs) = true then some ((d, cs) :: σ, cs.map (·.1) ++ gs) else none
  | .a d act => if o.dst = d ∧ dOk n gs d = true ∧ gd = none ∧ act.ok P o.op = true ∧ act.reads.all (opOK σ []) = true then
      some (sgd d σ, gs) else none

theorem csFits_ok {σ : List (Nat × Gd)} {g : Nat} {want : Bool} {cs : Gd} (h : csFits σ (some (g, want)) cs = true) {e : Env} : CondOK e cs ↔ CondOK e (csOf σ g) ∧ lk e g = some (.bool want) := by
  simp only [csFits, Bool.and_eq_true] at h
  constructor
  · intro c
    have := c.sub h.2
    exact ⟨fun p hp => this p (List.mem_append_left _ hp), this (g, want) (by simp)⟩
  · rintro ⟨c1, c2⟩
    refine CondOK.sub (b := csOf σ g ++ [(g, want)]) ?_ h.1
    intro p hp
    rcases List.mem_append.1 hp with hp | hp
    · exact c1 p hp
    · simp at hp; subst hp; exact c2

/-- whether the operation runs -/
theorem wanted_iff {n : Nat} {ops : Array Oper} {o : Oper} {σ : List (Nat × Gd)} {e : Env} {a : Act} (f : FitsC n σ e a) {gd : Option (Nat × Bool)} (hg : gdOf ops o = some gd) {cs : Gd} (hc : csFits σ gd cs = true) (hk : gok e cs) :
    Region.wanted o (yielded ops a.tmps) = true ↔ CondOK e cs := by
  unfold gdOf at hg
  unfold Region.wanted
  cases hgu : o.guard with
  | none =>
    rw [hgu] at hg; simp at hg; subst hg
    simp [csFits] at hc; subst hc
    simp [CondOK]
  | some jw =>
    obtain ⟨j, want⟩ := jw
    rw [hgu] at hg; simp only at hg
    cases hj : ops[j]? with
    | none => rw [hj] at hg; cases hg
    | some oj =>
      rw [hj] at hg; simp only at hg
      cases hd : oj.dst with
      | none => rw [hd] at hg; cases hg
      | some g =>
        rw [hd] at hg; simp at hg; subst hg
        rw [csFits_ok hc]
        have hmem : (g, want) ∈ cs := by
          simp only [csFits, Bool.and_eq_true] at hc
          exact subG_mem hc.2 (g, want) (by simp)
        obtain ⟨b, hb⟩ := gok_mem hk _ hmem
        simp only at hb
        simp only [yielded, hj, hd, Option.bind_some]
        by_cases hcg : CondOK e (csOf σ g)
        · have := f.get g _ hb hcg
          simp [this, hcg, hb]
        · have := f.no g _ hb hcg
          simp [this, hcg, undef]
theorem wanted_none {ops : Array Oper} {o : Oper} (hg : gdOf ops o = some none) (t : Array Value) : Region.wanted o (yielded ops t) = true := by
  unfold gdOf at hg
  unfold Region.wanted
  cases hgu : o.guard with
  | none => rfl
  | some jw =>
    obtain ⟨j, want⟩ := jw
    rw [hgu] at hg; simp only at hg
    cases hj : ops[j]? with
    | none => rw [hj] at hg; cases hg
    | some oj =>
      rw [hj] at hg; simp only at hg
      cases hd : oj.dst with
      | none => rw [hd] at hg; cases hg
      | some g => rw [hd] at hg; cases hg

theorem gsIn_cons {σ : List (Nat × Gd)} {gs : List Nat} (h : gsIn σ gs) (d : Nat) (cs : Gd) : gsIn ((d, cs) :: σ) (cs.map (·.1) ++ gs) := by
  intro t p hp
  by_cases ht : d = t
  · subst ht; rw [csOf_cons_same] at hp; exact List.mem_append_left _ (List.mem_map.2 ⟨p, hp, rfl⟩)
  · rw [csOf_cons_ne ht] at hp; exact List.mem_append_right _ (h t p hp)

theorem lrow_at {cx : Ctx} {bx : List Box} {own : List HP} {u : Mem} {w : World} {b o : Nat} {cells : List Value} (h : lrow bx u b o cells) (i : Inv cx (props bx own) u w) : ∃ c T fz, w.heap[b]? = some (.cells c T fz) ∧ (c.toList.drop o).take cells.length = cells := by
  rcases h with ⟨c, T, fz, hb, hc⟩ | ⟨bb, hm, rfl, hc⟩
  · exact ⟨c, T, fz, i.hu _ _ hb, hc⟩
  · exact ⟨_, _, _, i.at_ (List.mem_append_left _ (List.mem_map.2 ⟨bb, hm, rfl⟩)), by simpa using hc⟩
theorem run_ld {P : Program} {o : Oper} {x : Operand} {k : Nat} {agg : Bool} {a : Act} {w : World} {b of : Nat} {cells : List Value}
    (hok : ldOk P o.op x k agg = true) (hx : a.eval x = .pointer (some ⟨b, of, none⟩)) (hr : ∃ c T fz, w.heap[b]? = some (.cells c T fz) ∧ (c.toList.drop of).take cells.length = cells) (hl : cells.length = k) :
    (execOp a.eval o).run P w = .ok (.value (mkv agg cells)) w := by
  unfold ldOk at hok
  split at hok
  rotate_left
  · cases hok
  rename_i T y hop
  simp only [Bool.and_eq_true, decide_eq_true_eq, Bool.or_eq_true] at hok
  obtain ⟨⟨⟨⟨hy, hag⟩, hsz⟩, hn1⟩, h1⟩ := hok
  obtain rfl := osame_eq hy
  obtain ⟨c, T0, fz, hblk, hc⟩ := hr
  have hone : agg = false → k = 1 := fun h => by
    rcases hn1 with q | q
    · rw [h] at q; cases q
    · exact q
  have hload := run_loadVar' (P := P) hag hsz (w := w) (b := b) (o := of) (cells := cells) hl h1 hone (fun j v hj => by
      rw [cell_of_block hblk]
      rw [← hc, List.getElem?_take] at hj
      split at hj
      · rw [List.getElem?_drop] at hj; simpa using hj
      · cases hj)
  unfold execOp; simp only [hop]
  simp [hx, Instr.loadAt, Instr.sureAddr, hload]

theorem run_qc {P : Program} {o : Oper} {x : Operand} {xs : List Operand} {a : Act} {w : World} {f : FuncId} {caps : Array Value} {vs : List Value} (hok : qcOk o.op x xs = true) {first : Array Value} (hx : a.eval x = .func (.func f) first caps) (hxs : xs.map a.eval = vs) (he : Ent P f) :
    (execOp a.eval o).run P w = .ok (.enter f (first.toList ++ vs ++ caps.toList).toArray) w := by
  unfold qcOk at hok
  split at hok
  rotate_left
  · cases hok
  rename_i y args ats hop
  simp at hok
  obtain ⟨hy, hz⟩ := hok
  obtain rfl := osame_eq hy
  obtain rfl := olsame_eq hz
  have hargs : args.map a.eval = vs.toArray := by apply Array.ext'; simpa using hxs
  unfold execOp; simp only [hop]
  simp [resolve, hx, Deferred.ofValue, invoke, callFunc_run he, hargs]

theorem Inv.quiet {P : Program} {cx : Ctx} {L : List HP} {u : Mem} {w : World} {f : FuncId} {vs : List Value} {v : Value} (hc : QFn P f vs u v) (i : Inv cx L u w) :
    Calls P f vs.toArray w fun e w' => e = .returned v ∧ Inv cx L u w' := by
  have i2 := i
  obtain ⟨⟨h, hs, hd, hh, hn⟩, hu, _⟩ := i2
  refine (hc.2 w (fun _ => none) (fun _ => rfl) (fun b => .inr rfl) (fun b o e => by cases e) hu).mono ?_
  rintro e w' ⟨v', own', u', he, ⟨rfl, rfl, rfl⟩, hi⟩
  have := Inv.call (L1' := []) i hs hd hh hn (spl_of_emp (h1 := fun _ => none) (fun _ => rfl)) (L1 := []) (L2 := L) (fun _ => rfl) hs hi
  exact ⟨he, by simpa using this⟩

/-- ONE ITEM: the machine does what it says. -/
theorem one_sound {P : Program} {n : Nat} {ops : Array Oper} {σ σ' : List (Nat × Gd)} {gs gs' : List Nat} {gd : Option (Nat × Bool)} {j : Nat} {o : Oper} {x : I0} {e : Env} {bx : List Box} {own : List HP} {u : Mem} {cx : Ctx} {a : Act} {w : World}
    {K : Env → List Box → List HP → Mem → Prop} {next : Act → World → Prop} {Q : Exit → Act → World → Prop} (ho : ops[j]? = some o) (hgd : gdOf ops o = some gd ∨ (gd = none ∧ Region.wanted o (yielded ops a.tmps) = true))
    (hc : chk1 P n σ gs gd o x = some (σ', gs')) (hw : WS0 P K [x] e bx own u) (f : FitsC n σ e a) (hgs : gsIn σ gs) (i : Inv cx (props bx own) u w)
    (k : ∀ e' bx' own' u' a' w', K e' bx' own' u' → FitsC n σ' e' a' → gsIn σ' gs' → Inv cx (props bx' own') u' w' → next a' w') :
    wpOp P ops Q j next a w := by
  unfold wpOp
  rw [ho]
  simp only
  have hwi' : ∀ cs, csFits σ gd cs = true → gok e cs → (Region.wanted o (yielded ops a.tmps) = true ↔ CondOK e cs) := fun cs h1 h2 => by
    rcases hgd with hgd | ⟨rfl, hwt⟩
    · exact wanted_iff f hgd h1 h2
    · simp [csFits] at h1; subst h1
      exact ⟨fun _ p hp => (by cases hp), fun _ => hwt⟩
  have hw0 : gd = none → Region.wanted o (yielded ops a.tmps) = true := fun h => by
    subst h
    exact (hwi' [] rfl trivial).2 (fun p hp => by cases hp)
  cases x with
  | p d cs op =>
    simp only [chk1] at hc
    split at hc
    rotate_left
    · cases hc
    rename_i hcc
    obtain ⟨hdst, hdn, hdg, hfit, hdc, hpok, hreads⟩ := hcc
    simp at hc; obtain ⟨rfl, rfl⟩ := hc
    simp only [WS0] at hw
    split at hw
    rotate_left
    · exact hw.elim
    rename_i s v hval
    obtain ⟨hgk, hun, hK⟩ := hw
    have hcs : ∀ p ∈ cs, p.1 ≠ d := fun p hp q => by
      have : (cs.map (·.1)).contains d = true := List.contains_iff_mem.2 (List.mem_map.2 ⟨p, hp, q⟩)
      rw [this] at hdc; cases hdc
    have hwi := hwi' cs hfit hgk
    by_cases hcond : CondOK e cs
    · rw [if_pos (hwi.2 hcond)]
      left
      refine Oper.wp_value (PI.sound hpok hval (under_iff hun hcond) (readsOK_opk f hcond hval hreads) i) ?_
      rw [hdst]
      exact k _ _ _ _ _ _ hK (f.put hdn hdg hgs hcs (fun _ => rfl) (fun q => absurd hcond q)) (gsIn_cons hgs _ _) i
    · rw [if_neg (fun q => hcond (hwi.1 q))]
      rw [hdst]
      exact k _ _ _ _ _ _ hK (f.put hdn hdg hgs hcs (fun q => absurd q hcond) (fun _ => rfl)) (gsIn_cons hgs _ _) i
  | ld d cs y m agg =>
    simp only [chk1] at hc
    split at hc
    rotate_left
    · cases hc
    rename_i hcc
    obtain ⟨hdst, hdn, hdg, hfit, hdc, hpok, hreads⟩ := hcc
    simp at hc; obtain ⟨rfl, rfl⟩ := hc
    simp only [WS0] at hw
    split at hw
    rotate_left
    · exact hw.elim
    rename_i b of sp hval
    obtain ⟨cells, hgk, hun, hlen, hK⟩ := hw
    have hcs : ∀ p ∈ cs, p.1 ≠ d := fun p hp q => by
      have : (cs.map (·.1)).contains d = true := List.contains_iff_mem.2 (List.mem_map.2 ⟨p, hp, q⟩)
      rw [this] at hdc; cases hdc
    have hwi := hwi' cs hfit hgk
    by_cases hcond : CondOK e cs
    · rw [if_pos (hwi.2 hcond)]
      left
      obtain ⟨rfl, hrow⟩ := under_iff hun hcond
      refine Oper.wp_value (run_ld hpok (opOK_opk f hcond hreads _ hval) (lrow_at hrow i) hlen) ?_
      rw [hdst]
      exact k _ _ _ _ _ _ hK (f.put hdn hdg hgs hcs (fun _ => rfl) (fun q => absurd hcond q)) (gsIn_cons hgs _ _) i
    · rw [if_neg (fun q => hcond (hwi.1 q))]
      rw [hdst]
      exact k _ _ _ _ _ _ hK (f.put hdn hdg hgs hcs (fun q => absurd q hcond) (fun _ => rfl)) (gsIn_cons hgs _ _) i
  | qc d cs y ys =>
    simp only [chk1] at hc
    split at hc
    rotate_left
    · cases hc
    rename_i hcc
    obtain ⟨hdst, hdn, hdg, hfit, hdc, hpok, hreads⟩ := hcc
    simp at hc; obtain ⟨rfl, rfl⟩ := hc
    simp only [WS0] at hw
    split at hw
    rotate_left
    · exact hw.elim
    rename_i f0 first caps vs hval hvals
    obtain ⟨v, hgk, hun, hK⟩ := hw
    have hcs : ∀ p ∈ cs, p.1 ≠ d := fun p hp q => by
      have : (cs.map (·.1)).contains d = true := List.contains_iff_mem.2 (List.mem_map.2 ⟨p, hp, q⟩)
      rw [this] at hdc; cases hdc
    have hwi := hwi' cs hfit hgk
    by_cases hcond : CondOK e cs
    · rw [if_pos (hwi.2 hcond)]
      left
      have hq := under_iff hun hcond
      have hop : ∀ z ∈ y :: ys, Opk e a z := fun z hz => opOK_opk f hcond (List.all_eq_true.1 hreads z hz)
      unfold Oper.wp
      rw [run_qc hpok (hop y (by simp) _ hval) (evs_map hvals (fun z hz => hop z (by simp [hz]))) hq.1]
      show Calls P f0 _ w _
      refine (i.quiet hq).mono ?_
      rintro e' w' ⟨rfl, hi⟩
      show next _ _
      rw [hdst]
      exact k _ _ _ _ _ _ hK (f.put hdn hdg hgs hcs (fun _ => rfl) (fun q => absurd hcond q)) (gsIn_cons hgs _ _) hi
    · rw [if_neg (fun q => hcond (hwi.1 q))]
      rw [hdst]
      exact k _ _ _ _ _ _ hK (f.put hdn hdg hgs hcs (fun q => absurd q hcond) (fun _ => rfl)) (gsIn_cons hgs _ _) i
  | a d act =>
    simp only [chk1] at hc
    split at hc
    rotate_left
    · cases hc
    rename_i hcc
    obtain ⟨hdst, hdn, rfl, haok, hreads⟩ := hcc
    simp only [WS0] at hw
    rw [if_pos (hw0 rfl)]
    left
    have h0 : CondOK e [] := fun p hp => by cases hp
    refine A.sound haok hw (fun x hx => opOK_opk f h0 (List.all_eq_true.1 hreads x hx)) i ?_
    intro v bx' own' u' w' hK hi
    rw [hdst]
    cases d with
    | none =>
      simp [sgd] at hc; obtain ⟨rfl, rfl⟩ := hc
      exact k _ _ _ _ _ _ hK f hgs hi
    | some d =>
      simp [sgd] at hc; obtain ⟨rfl, rfl⟩ := hc
      simp [dOk] at hdn
      refine k _ _ _ _ _ _ hK (f.put hdn.1 hdn.2 hgs (cs := []) (fun p hp => by cases hp) (fun _ => rfl) (fun q => absurd h0 q)) (gsIn_cons hgs d []) hi
end Go.Proofs.YtenmmfkgopffgaaGreatDoor
