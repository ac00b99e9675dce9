/- Part 19 of the proofs that the program's StateBack and StateBalance return true (texts Bu Pa Bv joined): what its functions compute. -/
import Derived.Test.YtenmmfkgopffgaaGreatDoorMal
import Derived.Test.YtenmmfkgopffgaaGreatDoorProg
import Derived.Lib.FrozenHead
import Derived.Lib.Walk
import Derived.Lib.Strings
import Derived.Lib.Builder
import Derived.Lib.AppendStr
import Derived.Lib.UnsafeStr
import Derived.WalkKit
import Derived.OwnWalk
import Derived.Laws.Externs
import Derived.Laws.IdiomCopy
import Derived.Laws.BitsLemmas
import Derived.Shelf.RegionOpenPlain
import Derived.Lib.AtoiAll
import Derived.Lib.ItoaNum
import Derived.Lib.Bytealg
import Derived.Test.YtenmmfkgopffgaaGreatDoorMak
import Derived.Ground.NamesProg
import Derived.Shelf.Strconv.Itoa3
import Derived.Shelf.Strconv.ErrVarAll
import Derived.Shelf.Small.Strs
import Derived.Shelf.Small.Wraps
set_option linter.unusedVariables false
set_option linter.unusedSimpArgs false
namespace Go.Proofs.YtenmmfkgopffgaaGreatDoor
open Go Go.RowKit

set_option maxHeartbeats 1000000 in
set_option maxRecDepth 100000 in
theorem copyCheck_new {T : TypeId} (hl : liesAt Tryz.prog Tryz.prog.depth T (2 / Tryz.prog.cellsOf T) 0 76 1 = true) (b : Nat) (w : World) (h0 : w.cell? ⟨b, 0, none⟩ = some (.pointer none)) (hsh : w.shape? b = some (T, 2)) (hfz : w.frozen? ⟨b, 0, none⟩ = false) :
    Calls Tryz.prog 66 #[.pointer (some ⟨b, 0, none⟩)] w fun e w' => e = .returned (.tuple #[]) ∧ w' = w.setCell ⟨b, 0, none⟩ (.pointer (some ⟨b, 0, none⟩)) := by
  have hsz : (Tryz.prog.info? 76).map (·.size) = some 2 := by kernel_rfl
  obtain ⟨j, hj, hjs⟩ := Option.map_eq_some_iff.1 hsz
  go_enter Tryz.func66, Tryz.ntmps66
  go_wp2
  rw [Lib.run_to_unsafe w ⟨b, 0, none⟩ Tryz.underlying73 Tryz.underlying154 hj (by rw [hjs]; decide) hsh (Nat.zero_lt_succ 1)]
  simp only [Result.andThen]
  rw [Oper.upon_value]
  go_wp2
  rw [run_callFunc_extern Tryz.func110 (by kernel_rfl) (by kernel_rfl) (by kernel_rfl) (e := Extern.AbiNoEscape.same) (by kernel_rfl)]
  rw [Lib.run_noEscape]
  simp only [Result.andThen]
  rw [Oper.upon_value]
  go_wp2
  rw [Lib.run_from_unsafe w ⟨b, 0, none⟩ Tryz.underlying154 Tryz.underlying73 hj hsh hl]
  simp only [Result.andThen]
  rw [Oper.upon_value]
  go_wp2
  go_end0
  exact ⟨rfl, rfl⟩
set_option maxHeartbeats 1000000 in
set_option maxRecDepth 100000 in
theorem copyCheck_used (b : Nat) (w : World) (h0 : w.cell? ⟨b, 0, none⟩ = some (.pointer (some ⟨b, 0, none⟩))) :
    Calls Tryz.prog 66 #[.pointer (some ⟨b, 0, none⟩)] w fun e w' => e = .returned (.tuple #[]) ∧ w' = w := by
  have hsz : (Tryz.prog.info? 76).map (·.size) = some 2 := by kernel_rfl
  obtain ⟨j, hj, hjs⟩ := Option.map_eq_some_iff.1 hsz
  go_enter Tryz.func66, Tryz.ntmps66
  go_wp2
  rw [Lib.run_neq_ptr_same w _ Tryz.underlying73 hj]
  go_wp2
  go_end0
  exact ⟨rfl, rfl⟩
theorem run_append_str {P : Program} (w : World) (t u ty e : TypeId) (i : TypeInfo) (ht : P.underlying t = some (.slice e)) (hu : P.underlying u = some .string) (hi : P.info? e = some i) (hz : i.zero = some (.int .u8 0))
    (hsize : i.size = 1) (hby : i.bytes = 1) (v : Value) (n : Nat) (xs : List Value) (hown : w.ownsRowF 0 e 1 v n xs) (s : ByteArray) (hbytes : n + s.size ≤ 140737488355328) :
    ∃ v' w', (Builtin.append_ #[t, u] ty #[v, .string s]).run P w = .ok v' w' ∧ w'.ownsRowF 0 e 1 v' (n + s.size) (xs ++ Lib.strCells s) ∧ w.grownBy w' v.ownBlock ∧
      (∀ g, v'.ownBlock = some g → v.ownBlock = some g ∨ w.heap.size ≤ g) := by
  have h63 : n + s.size ≤ maxLen := by unfold maxLen; omega
  rcases hown.2 with ⟨rfl, rfl⟩ | ⟨g, cap, cur, fz, rfl, hbg, hg, hfz, hnc, hcm, hcs, htake⟩
  · obtain ⟨v', w', h1, h2, h3, _⟩ := Lib.run_append_own_stringF (P := P) w w.heap.size t u ty e i ht hu hi hz hsize hby (.slice none 0 0) 0 xs ⟨hown.1, .inl ⟨rfl, rfl⟩⟩ s h63 hbytes (Nat.le_refl _)
    refine ⟨v', w', h1, ⟨h2.1, h2.2.imp id ?_⟩, h3, fun g hg => .inr (h2.lt g hg).1⟩
    rintro ⟨g, cap, cur, fz, a, b, c⟩
    exact ⟨g, cap, cur, fz, a, Nat.zero_le _, c⟩
  · by_cases hroom : n + s.size ≤ cap
    · have hxl : xs.length = n := by simpa using hown.1
      have hlen : (xs ++ Lib.strCells s).length = (n + s.size) * 1 := by rw [List.length_append, hxl, Lib.strCells_length, Nat.mul_one]
      have hcs' : cur.size = cap := by simpa using hcs
      have hr := Lib.run_append_room_stringF (P := P) w t u ty e i ht hu hi hsize g n cap cur fz hg (by simpa using hfz) s hroom (by omega)
      refine ⟨_, _, hr, ⟨hlen, .inr ⟨g, cap, _, fz, rfl, hbg, setRow_heap w g cur _ e _ hg, by omega, hroom, hcm, ?_, ?_⟩⟩, ⟨rfl, rfl, rfl, by simp, fun k _ hk => setRow_other w g k _ (fun e => hk (by simp [Value.ownBlock, e]))⟩, fun q hq => .inl hq⟩
      · simp only [List.size_toArray, List.length_append, List.length_take, List.length_drop, Array.length_toList, Lib.strCells_length]
        omega
      · have ht' : cur.toList.take n = xs := by simpa using htake
        rw [ht', ← hlen]
        exact List.take_left
    · have hxl : xs.length = n := by simpa using hown.1
      have hlen : (xs ++ Lib.strCells s).length = (n + s.size) * 1 := by rw [List.length_append, hxl, Lib.strCells_length, Nat.mul_one]
      have holds : ∀ j u, xs[j]? = some u → w.cell? ((⟨g, 0, none⟩ : Addr).add j) = some u := hown.cells (g := g) rfl
      have hr := Lib.run_append_grow_string (P := P) w t u ty e i (.int .u8 0) ht hu hi hz ⟨g, 0, none⟩ n cap xs (by rw [hsize]; simpa using hxl) holds s (by omega) (by omega) (by rw [hby]; exact growslice_fits (by omega) (by omega))
      have hge := grownCap_ge w (n + s.size) cap e
      have hcm2 : grownCap w (n + s.size) cap e ≤ maxLen := grownCap_le_maxLen w (n + s.size) cap e h63
      refine ⟨_, _, hr, ⟨hlen, .inr ⟨w.heap.size, _, _, (0, 0), rfl, Nat.zero_le _, heap_alloc_new w.drew _, Nat.zero_le _, hge, hcm2, ?_, ?_⟩⟩, ⟨rfl, rfl, rfl, by simp, fun k hk _ => heap_alloc_old w.drew _ hk⟩, fun q hq => .inr ?_⟩
      · have hz1 : (Value.int IntKind.u8 0).cells.size = 1 := rfl
        simp only [Array.size_append, List.size_toArray, size_zeroCells, hz1, hxl, Lib.strCells_length]
        omega
      · simp only [Array.toList_append, List.append_assoc]
        rw [← List.append_assoc, ← hlen]
        exact List.take_left
      · simp only [Value.ownBlock, Option.some.injEq] at hq
        omega

theorem wpList_append_str {P : Program} {w : World} {ops : Array Oper} {rest : List Oper} {o : Oper} {a : Act} {Q : Exit → Act → World → Prop} (hgd : o.guard = none) (sl x : Operand) (t u : TypeId)
    (ho : o.op = .call { callee := .builtin .append, args := #[sl, x], argTypes := #[t, u] })
    (e : TypeId) (i : TypeInfo) (ht : P.underlying t = some (.slice e)) (hu : P.underlying u = some .string) (hi : P.info? e = some i) (hz : i.zero = some (.int .u8 0))
    (hsize : i.size = 1) (hby : i.bytes = 1)
    (v : Value) (n : Nat) (xs : List Value) (hs : a.eval sl = v) (hown : w.ownsRowF 0 e 1 v n xs) (s : ByteArray) (hx : a.eval x = .string s) (hbytes : n + s.size ≤ 140737488355328)
    (h : ∀ v' w', w'.ownsRowF 0 e 1 v' (n + s.size) (xs ++ Lib.strCells s) → w.grownBy w' v.ownBlock → (∀ g, v'.ownBlock = some g → v.ownBlock = some g ∨ w.heap.size ≤ g) → wpList P ops Q rest (a.put o.dst v') w') : wpList P ops Q (o :: rest) a w := by
  refine wpList_plain hgd fun K hK => ?_
  obtain ⟨v', w', hr, h2, h3, h4⟩ := run_append_str (P := P) w t u o.type e i ht hu hi hz hsize hby v n xs hown s hbytes
  unfold Oper.wp execOp
  simp only [ho, resolve, invoke, builtin, Sem.run_bind, Sem.run_pure, Result.andThen_ok, List.map_toArray, List.map_cons, List.map_nil, hs, hx, hr]
  exact hK _ _ (h v' w' h2 h3 h4)
theorem copyCheck_raw {T : TypeId} (hl : liesAt Tryz.prog Tryz.prog.depth T (2 / Tryz.prog.cellsOf T) 0 76 1 = true) (b : Nat) (p v : Value) (w : World) (hp : p = .pointer none ∨ p = .pointer (some ⟨b, 0, none⟩)) (hb : w.heap[b]? = some (.cells #[p, v] T (0, 0))) :
    Calls Tryz.prog 66 #[.pointer (some ⟨b, 0, none⟩)] w fun e w' => e = .returned (.tuple #[]) ∧ w'.heap[b]? = some (.cells #[.pointer (some ⟨b, 0, none⟩), v] T (0, 0)) ∧ w.grownBy w' (some b) ∧ w'.heap.size = w.heap.size := by
  have hc : w.cell? ⟨b, 0, none⟩ = some p := by simp [World.cell?, hb]
  rcases hp with rfl | rfl
  · refine (copyCheck_new hl b w hc (by simp [World.shape?, hb]) (by simp [World.frozen?, hb])).mono ?_
    rintro e w' ⟨rfl, rfl⟩
    refine ⟨rfl, ?_, ⟨rfl, rfl, rfl, by simp [World.setCell], fun k _ hk => Below.heap_setCell _ _ _ _ (fun e => hk (by simp [e]))⟩, by simp [World.setCell]⟩
    simp [World.setCell, Array.getElem?_modify, hb]
  · refine (copyCheck_used b w hc).mono ?_
    rintro e w' ⟨rfl, rfl⟩
    exact ⟨rfl, hb, ⟨rfl, rfl, rfl, Nat.le_refl _, fun _ _ _ => rfl⟩, rfl⟩
set_option maxHeartbeats 2000000 in
set_option maxRecDepth 100000 in
theorem writeString_raw {T : TypeId} (hT : T ≠ 5) (hl : liesAt Tryz.prog Tryz.prog.depth T (2 / Tryz.prog.cellsOf T) 0 76 1 = true) (b : Nat) (p v : Value) (n : Nat) (xs : List Value) (s : ByteArray) (w : World)
    (hp : p = .pointer none ∨ p = .pointer (some ⟨b, 0, none⟩)) (hb : w.heap[b]? = some (.cells #[p, v] T (0, 0))) (hown : w.ownsRowF 0 5 1 v n xs) (hlen : n + s.size ≤ 140737488355328) :
    Calls Tryz.prog 23 #[.pointer (some ⟨b, 0, none⟩), .string s] w fun e w' => e = .returned (.tuple #[.int .i64 s.size, .nilIface]) ∧ ∃ v', w'.heap[b]? = some (.cells #[.pointer (some ⟨b, 0, none⟩), v'] T (0, 0)) ∧
      w'.ownsRowF 0 5 1 v' (n + s.size) (xs ++ Lib.strCells s) ∧ (∀ g, v'.ownBlock = some g → v.ownBlock = some g ∨ w.heap.size ≤ g) ∧
      w'.os = w.os ∧ w'.tape = w.tape ∧ w'.output = w.output ∧ w.heap.size ≤ w'.heap.size ∧ ∀ k, k < w.heap.size → k ≠ b → some k ≠ v.ownBlock → w'.heap[k]? = w.heap[k]? := by
  obtain ⟨i0, hi, hz0, hz1, hz2⟩ : ∃ i, Tryz.prog.info? 5 = some i ∧ i.zero = some (.int .u8 0) ∧ i.size = 1 ∧ i.bytes = 1 := info_parts (by kernel_rfl)
  have hne : v.ownBlock ≠ some b := Lib.ownBlock_neF hown hb hT
  have hltb : b < w.heap.size := (Array.getElem?_eq_some_iff.1 hb).1
  go_enter Tryz.func23, Tryz.ntmps23
  go_wp2_with (go_at_call 66; refine (copyCheck_raw hl b p v _ hp hb).mono ?_)
  rintro e w1 ⟨rfl, hb1, hg1, hs1⟩
  have hown1 : w1.ownsRowF 0 5 1 v n xs := hown.kept hg1 (.inr hne)
  have c0 : w1.cell? ⟨b, 0, none⟩ = some (.pointer (some ⟨b, 0, none⟩)) := by rw [Lib.cell_of_heap hb1]; rfl
  have c1 : w1.cell? ⟨b, 1, none⟩ = some v := by rw [Lib.cell_of_heap hb1]; rfl
  go_wp2_with (at_builtin; refine wpList_append_str rfl _ _ 74 9 rfl 5 i0 Tryz.underlying74 Tryz.underlying9 hi hz0 hz1 hz2 _ _ _ rfl hown1 s rfl ?c4 ?_)
  case c4 => exact hlen
  intro v' w2 hown' hgrow hnew
  have hlt : b < w1.heap.size := by omega
  have hb2 : w2.heap[b]? = some (.cells #[.pointer (some ⟨b, 0, none⟩), v] T (0, 0)) := by
    rw [hgrow.block b hlt (fun e => hne e.symm)]
    exact hb1
  have d0 : w2.cell? ⟨b, 0, none⟩ = some (.pointer (some ⟨b, 0, none⟩)) := by rw [Lib.cell_of_heap hb2]; rfl
  have d1 : w2.cell? ⟨b, 1, none⟩ = some v := by rw [Lib.cell_of_heap hb2]; rfl
  have f1 : w2.frozen? ⟨b, 1, none⟩ = false := Lib.frozen_of_heap hb2 1
  obtain ⟨ao, n', cap, hv'⟩ : ∃ ao n' cap, v' = .slice ao n' cap := by
    rcases hown'.2 with ⟨hv, _⟩ | ⟨g, cap, cur, fz, hv, _⟩
    · exact ⟨_, _, _, hv⟩
    · exact ⟨_, _, _, hv⟩
  subst hv'
  go_wp2
  go_ret2
  have hnb : (Value.slice ao n' cap).ownBlock ≠ some b := fun q => by
    rcases hnew b q with r | r
    · exact hne r
    · omega
  refine ⟨rfl, _, by simp [World.setCell, Array.getElem?_modify, hb2]; rfl, ?_, ?_, ?_, ?_, ?_, ?_, ?_⟩
  · exact hown'.kept (row := some b) ⟨rfl, rfl, rfl, by simp [World.setCell], fun k _ hk => Below.heap_setCell _ _ _ _ (fun e => hk (by simp [e]))⟩ (.inr hnb)
  · exact hnew
  · exact hgrow.os.trans hg1.os
  · exact hgrow.tape.trans hg1.tape
  · exact hgrow.output.trans hg1.output
  · have := hgrow.size; simp [World.setCell]; omega
  · intro k hk hkb hkv
    rw [Below.heap_setCell _ _ _ _ (fun e => hkb (by simp [e])), hgrow.block k (by omega) hkv, hg1.block k hk (fun e => hkb (by simpa using e))]
set_option maxHeartbeats 2000000 in
set_option maxRecDepth 100000 in
theorem string_raw (T : TypeId) (b : Nat) (p v : Value) (l : List UInt8) (w : World) (hb : w.heap[b]? = some (.cells #[p, v] T (0, 0))) (hown : w.ownsRowF 0 5 1 v l.length (Lib.byteCells l)) (h0 : l ≠ []) :
    Calls Tryz.prog 27 #[.pointer (some ⟨b, 0, none⟩)] w fun e w' => e = .returned (.string ⟨l.toArray⟩) ∧ w.grownBy w' v.ownBlock := by
  have hl0 : l.length ≠ 0 := by simpa using h0
  obtain ⟨g, cap, cur, fz, rfl, hbg, hg, hfz, hnc, hcm, hcs, htake⟩ : ∃ g cap cur fz, v = .slice (some ⟨g, 0, none⟩) l.length cap ∧ 0 ≤ g ∧ w.heap[g]? = some (.cells cur 5 fz) ∧ fz.2 ≤ l.length * 1 ∧ l.length ≤ cap ∧ cap ≤ maxLen ∧ cur.size = cap * 1 ∧ cur.toList.take (l.length * 1) = Lib.byteCells l := by
    rcases hown.2 with ⟨_, hz⟩ | ⟨g, cap, cur, fz, hv, r⟩
    · exact absurd hz hl0
    · exact ⟨g, cap, cur, fz, hv, r⟩
  have c1 : w.drew.cell? ⟨b, 1, none⟩ = some (.slice (some ⟨g, 0, none⟩) l.length cap) := by
    have : w.drew.heap[b]? = some (.cells #[p, .slice (some ⟨g, 0, none⟩) l.length cap] T (0, 0)) := hb
    rw [Lib.cell_of_heap this]; rfl
  have hSD : (Builtin.unsafeSliceData_ #[74] 127 #[.slice (some ⟨g, 0, none⟩) l.length cap]).run Tryz.prog w.drew = .ok (.pointer (some ⟨g, 0, none⟩)) w.drew :=
    Lib.run_unsafeSliceData_row _ _ _ _ _ _ (by omega)
  have hcb : Tryz.prog.cellsOf 5 = 1 := by kernel_rfl
  have hUS : (Builtin.unsafeString_ #[127, 3] 9 #[.pointer (some ⟨g, 0, none⟩), .int .i64 l.length]).run Tryz.prog w.drew = .ok (.string ⟨l.toArray⟩) (w.drew.freeze ⟨g, 0, none⟩ l.length) := by
    refine Lib.run_unsafeString_row w.drew 127 3 9 5 Tryz.underlying127 hcb g cur.size (by have hg' : w.drew.heap[g]? = some (.cells cur 5 fz) := hg; simp [World.shape?, hg']) l h0 (by omega) (by unfold maxLen at hcm; omega) ?_
    intro j x hx
    have := hown.cells (g := g) rfl j (.int .u8 x.toNat) (by simp [Lib.byteCells, hx])
    exact this
  have hfr : w.grownBy (w.drew.freeze ⟨g, 0, none⟩ l.length) (Value.slice (some ⟨g, 0, none⟩) l.length cap).ownBlock := by
    unfold World.freeze
    rw [if_neg hl0]
    refine ⟨rfl, rfl, rfl, ?_, fun k _ hk => ?_⟩
    · show w.heap.size ≤ (Array.modify _ _ _).size
      rw [Array.size_modify]; exact Nat.le_refl _
    · have : g ≠ k := fun e => hk (by simp [Value.ownBlock, e])
      show (Array.modify _ _ _)[k]? = _
      rw [Array.getElem?_modify, if_neg this]; rfl
  have mixed : Tryz.prog.follows Departure.mixedOrders = true := by kernel_rfl
  go_enter Tryz.func27, Tryz.ntmps27
  go_wp2
  go_region_o
  all_goals (go_wp2; go_ret; exact ⟨rfl, hfr⟩)
theorem Inv.of_frame {w w' : World} {h h' u : Mem} {L' : List HP} (hs : Star L' h') (hk : has w' h') (hn : ∀ b, h' b ≠ none → h b ≠ none ∨ w.heap.size ≤ b) (hu : has w u) (hd : ∀ b, u b = none ∨ h b = none)
    (e1 : w'.os = w.os) (e2 : w'.tape = w.tape) (e3 : w'.output = w.output) (e4 : w.heap.size ≤ w'.heap.size) (keep : ∀ b, b < w.heap.size → h b = none → w'.heap[b]? = w.heap[b]?) : Inv ⟨w, h, u⟩ L' u w' := by
  refine ⟨⟨h', hs, fun b => ?_, hk, hn⟩, fun b o e => ?_, mle_refl u, fun b hb => .inl hb, e1, e2, e3, e4, keep⟩
  · by_cases e : h' b = none
    · exact .inr e
    · left
      cases eu : u b with
      | none => rfl
      | some o =>
        have hlt := has_lt hu (b := b) (by simp [eu])
        rcases hn b e with q | q
        · rcases hd b with r | r
          · rw [r] at eu; cases eu
          · exact absurd r q
        · omega
  · have hlt := has_lt hu (b := b) (by simp [e])
    have hb : h b = none := by
      rcases hd b with r | r
      · rw [r] at e; cases e
      · exact r
    rw [keep b hlt hb]; exact hu b o e
def Bld (T : TypeId) (b : Nat) (l : List UInt8) : HP := fun h => ∃ p v h1 h2, (p = .pointer none ∨ p = .pointer (some ⟨b, 0, none⟩)) ∧ spl h h1 h2 ∧ Blk b (.cells #[p, v] T (0, 0)) h1 ∧
  ((v = .slice none 0 0 ∧ l = [] ∧ emp h2) ∨ ∃ g cap cur fz, v = .slice (some ⟨g, 0, none⟩) l.length cap ∧ Blk g (.cells cur 5 fz) h2 ∧ fz.2 ≤ l.length * 1 ∧ l.length ≤ cap ∧ cap ≤ maxLen ∧ cur.size = cap * 1 ∧ cur.toList.take (l.length * 1) = Lib.byteCells l)
theorem Bld.new (T : TypeId) (b : Nat) {h : Mem} (k : Blk b (.cells #[.pointer none, .slice none 0 0] T (0, 0)) h) : Bld T b [] h :=
  ⟨_, _, h, fun _ => none, .inl rfl, fun x => .inr ⟨rfl, rfl⟩, k, .inl ⟨rfl, rfl, fun _ => rfl⟩⟩
theorem Blk_at {b : Nat} {o : Obj} {h : Mem} {x : Nat} {q : Obj} (k : Blk b o h) (e : h x = some q) : x = b ∧ q = o := by
  by_cases hx : x = b
  · subst hx; rw [k.1] at e; exact ⟨rfl, by simpa using e.symm⟩
  · rw [k.2 x hx] at e; cases e
theorem spl_left {h h1 h2 : Mem} (s : spl h h1 h2) {b : Nat} {o : Obj} (e : h1 b = some o) : h b = some o := by
  rcases s b with ⟨q, _⟩ | ⟨_, q⟩
  · rw [q] at e; cases e
  · rw [q, e]
theorem spl_right {h h1 h2 : Mem} (s : spl h h1 h2) {b : Nat} {o : Obj} (e : h2 b = some o) : h b = some o := spl_left (spl_comm s) e
theorem Bld.raw {T : TypeId} {b : Nat} {l : List UInt8} {h : Mem} {w : World} (k : Bld T b l h) (hh : has w h) : ∃ p v, (p = .pointer none ∨ p = .pointer (some ⟨b, 0, none⟩)) ∧ w.heap[b]? = some (.cells #[p, v] T (0, 0)) ∧ w.ownsRowF 0 5 1 v l.length (Lib.byteCells l) ∧
    (∀ x, h x ≠ none → x = b ∨ v.ownBlock = some x) ∧ h b ≠ none ∧ ∀ x, v.ownBlock = some x → h x ≠ none ∧ x ≠ b := by
  obtain ⟨p, v, h1, h2, hp, sp, hb, hr⟩ := k
  have hhb : h b = some _ := spl_left sp hb.1
  refine ⟨p, v, hp, hh b _ hhb, ⟨by rw [Lib.byteCells_length]; omega, ?_⟩, fun x hx => ?_, by rw [hhb]; simp, fun x hx => ?_⟩
  · rcases hr with ⟨a, c, _⟩ | ⟨g, cap, cur, fz, a, c, d⟩
    · exact .inl ⟨a, by rw [c]; rfl⟩
    · exact .inr ⟨g, cap, cur, fz, a, Nat.zero_le _, hh g _ (spl_right sp c.1), d⟩
  · cases e : h x with
    | none => exact absurd e hx
    | some o =>
      rcases sp x with ⟨q1, q2⟩ | ⟨q1, q2⟩
      · rw [e] at q2
        rcases hr with ⟨_, _, c⟩ | ⟨g, cap, cur, fz, a, c, d⟩
        · rw [c x] at q2; cases q2
        · exact .inr (by rw [a, (Blk_at c q2.symm).1]; rfl)
      · rw [e] at q2
        exact .inl (Blk_at hb q2.symm).1
  · rcases hr with ⟨a, c, _⟩ | ⟨g, cap, cur, fz, a, c, d⟩
    · rw [a] at hx; cases hx
    · rw [a] at hx
      simp only [Value.ownBlock, Option.some.injEq] at hx
      subst hx
      refine ⟨by rw [spl_right sp c.1]; simp, fun e => ?_⟩
      subst e
      rcases sp g with ⟨q, _⟩ | ⟨q, _⟩
      · rw [hb.1] at q; cases q
      · rw [c.1] at q; cases q
theorem Bld.make {T : TypeId} (hT : T ≠ 5) {b : Nat} {p v : Value} {l : List UInt8} {w : World} (hp : p = .pointer none ∨ p = .pointer (some ⟨b, 0, none⟩)) (hb : w.heap[b]? = some (.cells #[p, v] T (0, 0))) (ho : w.ownsRowF 0 5 1 v l.length (Lib.byteCells l)) :
    ∃ h, Bld T b l h ∧ has w h ∧ ∀ x, h x ≠ none → x = b ∨ v.ownBlock = some x := by
  rcases ho.2 with ⟨rfl, h0⟩ | ⟨g, cap, cur, fz, rfl, _, hg, r⟩
  · have hl : l = [] := List.eq_nil_of_length_eq_zero h0
    subst hl
    refine ⟨fun x => if x = b then some (.cells #[p, .slice none 0 0] T (0, 0)) else none, ⟨p, _, _, fun _ => none, hp, fun x => .inr ⟨rfl, rfl⟩, ⟨by simp, fun c hc => by simp [hc]⟩, .inl ⟨rfl, rfl, fun _ => rfl⟩⟩, fun x o e => ?_, fun x hx => ?_⟩
    · by_cases hx : x = b
      · subst hx; simp at e; subst e; exact hb
      · simp [hx] at e
    · by_cases hx' : x = b
      · exact .inl hx'
      · simp [hx'] at hx
  · have hgb : g ≠ b := fun e => by
      subst e
      rw [hg] at hb
      simp at hb
      exact hT hb.2.1.symm
    refine ⟨fun x => if x = b then some (.cells #[p, .slice (some ⟨g, 0, none⟩) l.length cap] T (0, 0)) else if x = g then some (.cells cur 5 fz) else none,
      ⟨p, _, fun x => if x = b then some (.cells #[p, .slice (some ⟨g, 0, none⟩) l.length cap] T (0, 0)) else none, fun x => if x = g then some (.cells cur 5 fz) else none, hp, fun x => ?_, ⟨by simp, fun c hc => by simp [hc]⟩, .inr ⟨g, cap, cur, fz, rfl, ⟨by simp, fun c hc => by simp [hc]⟩, r⟩⟩, fun x o e => ?_, fun x hx => ?_⟩
    · by_cases hx : x = b
      · subst hx; right; simp [hgb.symm]
      · left; simp [hx]
    · by_cases hx : x = b
      · subst hx; simp at e; subst e; exact hb
      · by_cases hxg : x = g
        · subst hxg; simp [hx] at e; subst e; exact hg
        · simp [hx, hxg] at e
    · by_cases hx' : x = b
      · exact .inl hx'
      · by_cases hxg : x = g
        · exact .inr (by rw [hxg]; rfl)
        · simp [hx', hxg] at hx
theorem Star_one {H : HP} {h : Mem} : Star [H] h ↔ H h := by
  constructor
  · rintro ⟨h1, h2, s, a, e⟩
    rw [spl_emp_left (spl_comm s) e]; exact a
  · intro a
    exact ⟨h, fun _ => none, fun b => .inr ⟨rfl, rfl⟩, a, fun _ => rfl⟩
theorem strCells_bytes (l : List UInt8) : Lib.strCells ⟨l.toArray⟩ = Lib.byteCells l := by
  rw [Lib.strCells_eq]
theorem en23 : Ent Tryz.prog 23 := ⟨_, Tryz.func23, by kernel_rfl, by kernel_rfl⟩
theorem en27 : Ent Tryz.prog 27 := ⟨_, Tryz.func27, by kernel_rfl, by kernel_rfl⟩
theorem writeString {T : TypeId} (hT : T ≠ 5) (hl : liesAt Tryz.prog Tryz.prog.depth T (2 / Tryz.prog.cellsOf T) 0 76 1 = true) (b : Nat) (l s : List UInt8) (u : Mem) (hlen : l.length + s.length ≤ 140737488355328) :
    Fn Tryz.prog 23 [.pointer (some ⟨b, 0, none⟩), .string ⟨s.toArray⟩] [Bld T b l] u fun v own' u' => v = .tuple #[.int .i64 s.length, .nilIface] ∧ own' = [Bld T b (l ++ s)] ∧ u' = u := by
  refine ⟨en23, fun w h hs hd hh hu => ?_⟩
  obtain ⟨p, v, hp, hb, ho, hdom, hbn, hvn⟩ := (Star_one.1 hs).raw hh
  have hsz : (⟨s.toArray⟩ : ByteArray).size = s.length := by show s.toArray.size = _; simp
  refine (writeString_raw hT hl b p v l.length _ ⟨s.toArray⟩ w hp hb ho (by rw [hsz]; exact hlen)).mono ?_
  rintro e w' ⟨rfl, v', hb', ho', hnew, e1, e2, e3, e4, keep⟩
  rw [hsz] at ho' ⊢
  rw [strCells_bytes, ← Lib.byteCells_append, ← List.length_append] at ho'
  obtain ⟨h', k1, k2, k3⟩ := Bld.make hT (.inr rfl) hb' ho'
  refine ⟨_, [Bld T b (l ++ s)], u, rfl, ⟨rfl, rfl, rfl⟩, Inv.of_frame (Star_one.2 k1) k2 (fun x hx => ?_) hu hd e1 e2 e3 e4 (fun x hx hn => keep x hx (fun q => hbn (q ▸ hn)) (fun q => (hvn x q.symm).1 hn))⟩
  rcases k3 x hx with q | q
  · subst q; exact .inl hbn
  · rcases hnew x q with r | r
    · exact .inl (hvn x r).1
    · exact .inr r
theorem builderString {T : TypeId} (b : Nat) (l : List UInt8) (u : Mem) (h0 : l ≠ []) : Fn Tryz.prog 27 [.pointer (some ⟨b, 0, none⟩)] [Bld T b l] u fun v own' u' => v = .string ⟨l.toArray⟩ ∧ own' = [] ∧ u' = u := by
  refine ⟨en27, fun w h hs hd hh hu => ?_⟩
  obtain ⟨p, v, hp, hb, ho, hdom, hbn, hvn⟩ := (Star_one.1 hs).raw hh
  refine (string_raw T b p v l w hb ho h0).mono ?_
  rintro e w' ⟨rfl, hg⟩
  refine ⟨_, [], u, rfl, ⟨rfl, rfl, rfl⟩, Inv.of_frame (h' := fun _ => none) (fun _ => rfl) (fun b o e => by cases e) (fun x hx => absurd rfl hx) hu hd hg.os hg.tape hg.output hg.size (fun x hx hn => hg.block x hx (fun q => (hvn x q.symm).1 hn))⟩
end Go.Proofs.YtenmmfkgopffgaaGreatDoor

namespace Go.Proofs.YtenmmfkgopffgaaGreatDoor
open Go

abbrev Str := List UInt8
def dgs : Nat → Nat → Str
  | 0, _ => []
  | f + 1, u => bif decide (u < 10) then [UInt8.ofNat (48 + u)] else dgs f (u / 10) ++ [UInt8.ofNat (48 + u % 10)]
def itoaB (n : Int) : Str := bif decide (n < 0) then 45 :: dgs 20 n.natAbs else dgs 20 n.toNat
theorem dgs_eq : ∀ (f u : Nat), u < 10 ^ f → 0 < f → dgs f u = Lib.decDigits u
  | 0, u, h, h0 => by omega
  | f + 1, u, h, _ => by
    rw [dgs, Lib.decDigits]
    by_cases hu : u < 10
    · simp [hu]
    · rw [dif_neg hu]
      by_cases hf : f = 0
      · subst hf; simp at h; omega
      · rw [dgs_eq f (u / 10) (by rw [Nat.pow_succ] at h; omega) (by omega)]
        simp [hu]
def i64 (n : Int) : Prop := -9223372036854775808 ≤ n ∧ n ≤ 9223372036854775807
theorem itoa_eq {n : Int} (h : i64 n) : Lib.itoa n = itoaB n := by
  obtain ⟨h0, h1⟩ := h
  unfold Lib.itoa itoaB
  by_cases hn : n < 0
  · rw [if_pos hn, ← dgs_eq 20 _ (by omega) (by omega)]; simp [hn]
  · rw [if_neg hn, ← dgs_eq 20 _ (by omega) (by omega)]; simp [hn]
def isDg (c : UInt8) : Prop := 48 ≤ c.toNat ∧ c.toNat ≤ 57
theorem dg_nat {u : Nat} (h : u < 10) : (UInt8.ofNat (48 + u)).toNat = 48 + u := by
  rw [UInt8.toNat_ofNat']; omega
theorem dgs_dg : ∀ (f u : Nat), ∀ c ∈ dgs f u, isDg c
  | 0, u, c, h => by simp [dgs] at h
  | f + 1, u, c, h => by
    rw [dgs] at h
    by_cases hu : u < 10
    · simp only [hu, decide_true, cond_true, List.mem_singleton] at h
      subst h
      unfold isDg
      rw [dg_nat hu]; omega
    · simp only [hu, decide_false, cond_false, List.mem_append, List.mem_singleton] at h
      rcases h with h | h
      · exact dgs_dg f _ c h
      · subst h
        unfold isDg
        have := dg_nat (u := u % 10) (by omega)
        rw [this]; omega
theorem dgs_len : ∀ (f u : Nat), (dgs f u).length ≤ f
  | 0, u => by simp [dgs]
  | f + 1, u => by
    rw [dgs]
    by_cases hu : u < 10
    · simp [hu]
    · simp [hu]; exact dgs_len f _
theorem dgs_le : ∀ (k f u : Nat), u < 10 ^ k → 1 ≤ k → (dgs f u).length ≤ k
  | k, 0, u, _, h => by simp [dgs]
  | 0, f + 1, u, h, hk => by omega
  | k + 1, f + 1, u, h, _ => by
    rw [dgs]
    by_cases hu : u < 10
    · simp [hu]
    · simp only [hu, decide_false, cond_false, List.length_append, List.length_cons, List.length_nil]
      have hk : 1 ≤ k := by
        rcases Nat.eq_zero_or_pos k with rfl | hk
        · simp at h; omega
        · exact hk
      have := dgs_le k f (u / 10) (by rw [Nat.pow_succ] at h; omega) hk
      omega
theorem dgs_mono : ∀ (f u v : Nat), u ≤ v → (dgs f u).length ≤ (dgs f v).length
  | 0, u, v, _ => by simp [dgs]
  | f + 1, u, v, h => by
    rw [dgs, dgs]
    by_cases hu : u < 10 <;> by_cases hv : v < 10
    · simp [hu, hv]
    · simp [hu, hv]
    · omega
    · simp [hu, hv]; exact dgs_mono f _ _ (by omega)
theorem dgs_ne : ∀ (f u : Nat), 0 < f → dgs f u ≠ []
  | 0, u, h => by omega
  | f + 1, u, _ => by
    rw [dgs]
    by_cases hu : u < 10 <;> simp [hu]
theorem itoa_ne (n : Int) : itoaB n ≠ [] := by
  unfold itoaB
  by_cases hn : n < 0
  · simp [hn]
  · simp [hn]; exact dgs_ne _ _ (by omega)
theorem itoa_chars (n : Int) : ∀ c ∈ itoaB n, isDg c ∨ c.toNat = 45 := by
  intro c hc
  unfold itoaB at hc
  by_cases hn : n < 0
  · simp [hn] at hc
    rcases hc with rfl | hc
    · exact .inr rfl
    · exact .inl (dgs_dg _ _ c hc)
  · simp [hn] at hc
    exact .inl (dgs_dg _ _ c hc)
theorem itoa_len {n : Int} (h : i64 n) : (itoaB n).length ≤ 20 := by
  obtain ⟨h0, h1⟩ := h
  unfold itoaB
  by_cases hn : n < 0
  · simp [hn]
    have := dgs_le 19 20 n.natAbs (by omega) (by omega)
    omega
  · simp [hn]; exact dgs_len _ _
theorem itoa_len' (n : Int) : (itoaB n).length ≤ 21 := by
  unfold itoaB
  by_cases hn : n < 0
  · simp [hn]; exact dgs_len _ _
  · simp [hn]; have := dgs_len 20 n.toNat; omega
theorem itoa_mono {a b : Nat} (h : a ≤ b) : (itoaB (a : Int)).length ≤ (itoaB (b : Int)).length := by
  unfold itoaB
  have h1 : ¬ ((a : Int) < 0) := by omega
  have h2 : ¬ ((b : Int) < 0) := by omega
  simp [h1, h2]; exact dgs_mono 20 _ _ h
theorem atoi_dgs : ∀ (f u : Nat), u < 10 ^ f → u < 18446744073709551616 → ∀ (acc : Nat) (r : Str), acc = 0 →
    Lib.parseUint10 acc (dgs f u ++ r) = Lib.parseUint10 u r
  | 0, u, h, _, acc, r, ha => by
    have : u = 0 := by omega
    subst this; subst ha; rfl
  | f + 1, u, h, h2, acc, r, ha => by
    subst ha
    rw [dgs]
    by_cases hu : u < 10
    · simp only [hu, decide_true, cond_true, List.cons_append, List.nil_append]
      rw [Lib.parseUint10]
      have hd := dg_nat hu
      rw [if_pos (by rw [hd]; omega), if_neg (by omega), if_neg (by rw [hd]; omega), hd]
      congr 1; omega
    · simp only [hu, decide_false, cond_false, List.append_assoc, List.cons_append, List.nil_append]
      rw [atoi_dgs f (u / 10) (by rw [Nat.pow_succ] at h; omega) (by omega) 0 _ rfl, Lib.parseUint10]
      have hd := dg_nat (u := u % 10) (by omega)
      rw [if_pos (by rw [hd]; omega), if_neg (by omega), if_neg (by rw [hd]; omega), hd]
      congr 1; omega
theorem atoi_itoa {n : Int} (h : i64 n) : Lib.atoiAll (itoaB n) = .ok n := by
  obtain ⟨h0, h1⟩ := h
  have mag : ∀ u : Nat, u < 18446744073709551616 → Lib.parseMag (dgs 20 u) = .ok u := fun u hu => by
    rw [Lib.parseMag, if_neg (dgs_ne 20 u (by omega))]
    have := atoi_dgs 20 u (by omega) hu 0 [] rfl
    rw [List.append_nil] at this
    rw [this]; rfl
  unfold itoaB
  by_cases hn : n < 0
  · simp only [hn, decide_true, cond_true]
    rw [Lib.atoiAll]
    have h45 : (45 : UInt8).toNat = 45 := rfl
    simp only [h45, or_true, if_true]
    rw [mag _ (by omega)]
    simp only [not_true, false_and, if_false, true_and]
    rw [if_neg (by omega)]
    congr 1; omega
  · simp only [hn, decide_false, cond_false]
    have hm := mag n.toNat (by omega)
    have hne := dgs_ne 20 n.toNat (by omega)
    have hdg := dgs_dg 20 n.toNat
    generalize hl : dgs 20 n.toNat = l at *
    match l, hne, hdg, hm with
    | c :: r, _, hdg, hm =>
      have hc := hdg c (by simp)
      unfold isDg at hc
      rw [Lib.atoiAll]
      have hc1 : (if c.toNat = 43 ∨ c.toNat = 45 then r else c :: r) = c :: r := if_neg (by omega)
      have hc2 : ¬ (c.toNat = 45) := by omega
      simp only [hc1, hm]
      simp only [hc2, if_false, not_false_eq_true, true_and, false_and]
      have hnn : ¬ (9223372036854775808 ≤ n.toNat) := by omega
      have hcast : (n.toNat : Int) = n := by omega
      rw [if_neg hnn, hcast]
structure Rd where
  rest : Str
  bad : Bool
  deriving DecidableEq
def rdFail : Rd := ⟨[], true⟩
def rdNumber (e : UInt8) (least : Int) (r : Rd) : Int × Rd :=
  let at_ := Lib.indexByte (r.rest.take 21) e
  if at_ < 0 then (0, rdFail) else
    match Lib.atoiAll ((r.rest.take 21).take at_.toNat) with
    | .ok n => bif (itoaB n == (r.rest.take 21).take at_.toNat) && decide (least ≤ n) then (n, ⟨r.rest.drop (at_.toNat + 1), r.bad⟩) else (0, rdFail)
    | _ => (0, rdFail)
theorem indexByte_spec (e : UInt8) : ∀ (l : Str), 0 ≤ Lib.indexByte l e → l = l.take (Lib.indexByte l e).toNat ++ e :: l.drop ((Lib.indexByte l e).toNat + 1)
  | [], h => by simp [Lib.indexByte] at h
  | b :: l, h => by
    unfold Lib.indexByte at h ⊢
    by_cases hb : (b == e) = true
    · have : b = e := by simpa using hb
      subst this
      simp
    · have hge := Lib.indexByte_ge l e
      rw [if_neg hb] at h ⊢
      by_cases h1 : (Lib.indexByte l e == -1) = true
      · rw [if_pos h1] at h; omega
      · rw [if_neg h1] at h ⊢
        have h1' : Lib.indexByte l e ≠ -1 := by simpa using h1
        have ih := indexByte_spec e l (by omega)
        have : (Lib.indexByte l e + 1).toNat = (Lib.indexByte l e).toNat + 1 := by omega
        rw [this, List.take_succ_cons, List.drop_succ_cons, List.cons_append]
        congr 1
theorem indexByte_at (e : UInt8) : ∀ (a b : Str), e ∉ a → Lib.indexByte (a ++ e :: b) e = a.length
  | [], b, _ => by simp [Lib.indexByte]
  | c :: a, b, h => by
    have hc : (c == e) = false := by
      cases hq : (c == e) with
      | false => rfl
      | true => simp at hq; subst hq; simp at h
    rw [List.cons_append, Lib.indexByte, hc, indexByte_at e a b (by intro q; exact h (by simp [q]))]
    simp
theorem rdNumber_cases (e : UInt8) (least : Int) (r : Rd) : rdNumber e least r = (0, rdFail) ∨ ∃ n r', rdNumber e least r = (n, ⟨r', r.bad⟩) ∧ r.rest = itoaB n ++ e :: r' ∧ least ≤ n := by
  unfold rdNumber
  simp only
  split
  · exact .inl rfl
  rename_i h
  split
  · rename_i n hn
    cases hb : (itoaB n == (r.rest.take 21).take (Lib.indexByte (r.rest.take 21) e).toNat) && decide (least ≤ n) with
    | false => exact .inl rfl
    | true =>
      simp at hb
      refine .inr ⟨n, _, rfl, ?_, hb.2⟩
      have := indexByte_spec e _ (by omega : 0 ≤ Lib.indexByte (r.rest.take 21) e)
      generalize (Lib.indexByte (r.rest.take 21) e).toNat = k at this hb
      have h21 : k + 1 ≤ 21 := by
        have hl := congrArg List.length this
        simp at hl; omega
      have hm : min k 21 = k := by omega
      rw [List.take_take, hm] at this
      rw [hb.1]
      simp only [List.take_take, hm]
      conv => lhs; rw [← List.take_append_drop 21 r.rest, this]
      have e2 : (List.drop (k + 1) (List.take 21 r.rest)) ++ r.rest.drop 21 = r.rest.drop (k + 1) := by
        conv => rhs; rw [← List.take_append_drop 21 r.rest]
        rw [List.drop_append]
        have hl := congrArg List.length this
        simp only [List.length_take, List.length_append, List.length_cons, List.length_drop] at hl
        congr 1
        rw [List.length_take]
        have : k + 1 - min 21 r.rest.length = 0 := by omega
        rw [this, List.drop_zero]
      rw [List.append_assoc, List.cons_append, e2]
  · exact .inl rfl
theorem rdNumber_ok {e : UInt8} {least n : Int} {r : Str} {b : Bool} (he : ¬ isDg e ∧ e.toNat ≠ 45) (h : i64 n) (hl : least ≤ n) : rdNumber e least ⟨itoaB n ++ e :: r, b⟩ = (n, ⟨r, b⟩) := by
  have hlen := itoa_len h
  have hne : e ∉ itoaB n := fun q => by
    rcases itoa_chars n e q with q | q
    · exact he.1 q
    · exact he.2 q
  have ht : (itoaB n ++ e :: r).take 21 = itoaB n ++ e :: r.take (20 - (itoaB n).length) := by
    rw [List.take_append, List.take_of_length_le (by omega)]
    congr 1
    have : 21 - (itoaB n).length = (20 - (itoaB n).length) + 1 := by omega
    rw [this, List.take_succ_cons]
  unfold rdNumber
  simp only [ht, indexByte_at e _ _ hne]
  rw [if_neg (by omega)]
  have e1 : ((itoaB n).length : Int).toNat = (itoaB n).length := by omega
  simp only [e1, List.take_left, atoi_itoa h]
  simp [hl]
end Go.Proofs.YtenmmfkgopffgaaGreatDoor

namespace Go.Proofs.YtenmmfkgopffgaaGreatDoor
open Go Go.Shelf
open Go.RowKit
structure GM (u : Mem) : Prop where
  pow : ∃ T fz, u 0 = some (.cells (Lib.pow10Tab.map fun z => Value.int .u64 z).toArray T fz)
  syn : ∃ tp p T fz, u 2 = some (.cells #[.iface tp p] T fz)
  rng : ∃ tp p T fz, u 3 = some (.cells #[.iface tp p] T fz)
theorem GM.mono {u u' : Mem} (g : GM u) (h : mle u u') : GM u' := by
  obtain ⟨⟨T, fz, a⟩, ⟨tp, p, T2, fz2, b⟩, ⟨tq, q, T3, fz3, c⟩⟩ := g
  exact ⟨⟨T, fz, h _ _ a⟩, ⟨tp, p, T2, fz2, h _ _ b⟩, ⟨tq, q, T3, fz3, h _ _ c⟩⟩
theorem GM.tab {u : Mem} {w : World} (g : GM u) (h : has w u) : Lib.TabIs Tryz.prog w "internal/strconv.uint64pow10" .u64 Lib.pow10Tab := by
  obtain ⟨T, fz, a⟩ := g.pow
  have hg : Tryz.prog.globalNamed "internal/strconv.uint64pow10" = some 0 := by kernel_rfl
  unfold Lib.TabIs World.var?
  rw [hg]
  simp [h _ _ a]
theorem GM.synt {u : Mem} {w : World} (g : GM u) (h : has w u) : ∃ tp p, w.var? Tryz.prog "strconv.ErrSyntax" = some #[.iface tp p] := by
  obtain ⟨tp, p, T, fz, a⟩ := g.syn
  have hg : Tryz.prog.globalNamed "strconv.ErrSyntax" = some 2 := by kernel_rfl
  refine ⟨tp, p, ?_⟩
  unfold World.var?
  rw [hg]
  simp [h _ _ a]
theorem GM.range {u : Mem} {w : World} (g : GM u) (h : has w u) : ∃ tp p, w.var? Tryz.prog "strconv.ErrRange" = some #[.iface tp p] := by
  obtain ⟨tp, p, T, fz, a⟩ := g.rng
  have hg : Tryz.prog.globalNamed "strconv.ErrRange" = some 3 := by kernel_rfl
  refine ⟨tp, p, ?_⟩
  unfold World.var?
  rw [hg]
  simp [h _ _ a]
theorem Fn.of_below {P : Program} {f : FuncId} {args : List Value} {u : Mem} {R : Value → Prop} (he : Ent P f) (h : ∀ w, has w u → Calls P f args.toArray w fun e w' => ∃ v, e = .returned v ∧ R v ∧ Below w.heap.size w w') :
    Fn P f args [] u fun v own' u' => R v ∧ own' = [] ∧ u' = u := by
  refine ⟨he, fun w hh hs hd hhas hu => ?_⟩
  refine (h w hu).mono ?_
  rintro e w' ⟨v, rfl, hr, hb⟩
  exact ⟨v, [], u, rfl, ⟨hr, rfl, rfl⟩, Inv.of_frame (h' := fun _ => none) (fun _ => rfl) (fun b o e => by cases e) (fun x hx => absurd rfl hx) hu hd hb.os hb.tape hb.output hb.size (fun x hx _ => hb.block x hx)⟩
theorem QFn.of_same {P : Program} {f : FuncId} {args : List Value} {u : Mem} {v : Value} (he : Ent P f) (h : ∀ w, has w u → Calls P f args.toArray w fun e w' => e = .returned v ∧ Below w.heap.size w w') : QFn P f args u v :=
  Fn.of_below (R := fun x => x = v) he fun w hu => (h w hu).mono fun e w' ⟨a, b⟩ => ⟨v, a, rfl, b⟩
theorem en70 : Ent Tryz.prog 70 := ⟨_, Tryz.func70, by kernel_rfl, by kernel_rfl⟩
theorem en112 : Ent Tryz.prog 112 := ⟨_, Tryz.func112, by kernel_rfl, by kernel_rfl⟩
theorem en114 : Ent Tryz.prog 114 := ⟨_, Tryz.func114, by kernel_rfl, by kernel_rfl⟩
theorem en130 : Ent Tryz.prog 130 := ⟨_, Tryz.func130, by kernel_rfl, by kernel_rfl⟩
theorem itoa_q {n : Int} {u : Mem} (g : GM u) (h : i64 n) : QFn Tryz.prog 70 [ic n] u (.string ⟨(itoaB n).toArray⟩) := by
  refine QFn.of_same en70 fun w hu => ?_
  refine (Any.strconv_Itoa Tryz.laysItoa n h.1 h.2 w (g.tab hu)).mono ?_
  rintro e w' ⟨rfl, k, os, rfl⟩
  refine ⟨by rw [itoa_eq h], rfl, rfl, rfl, ?_, fun b hb => ?_⟩
  · rw [Sort.size_grow]; exact Nat.le_add_right _ _
  · show (w.heap ++ os)[b]? = _
    rw [Array.getElem?_append_left hb]
theorem indexByte_q (s : ByteArray) (c : UInt8) (u : Mem) : QFn Tryz.prog 112 [.string s, .int .u8 c.toNat] u (ic (Lib.indexByte s.data.toList c)) := by
  refine QFn.of_same en112 fun w hu => ?_
  refine (Any.strings_IndexByte Tryz.laysIxb s c.toNat w).mono ?_
  rintro e w' ⟨rfl, rfl⟩
  refine ⟨?_, Below.refl _ _⟩
  have : (((c.toNat : Nat) : Int).toNat).toUInt8 = c := by
    rw [Int.toNat_natCast]
    simp
  rw [this]
theorem cutPrefix_q (s p : ByteArray) (u : Mem) : QFn Tryz.prog 130 [.string s, .string p] u (.tuple #[.string ⟨(Lib.trimPrefix s.data.toList p.data.toList).toArray⟩, .bool (Lib.hasPrefix s.data.toList p.data.toList)]) := by
  refine QFn.of_same en130 fun w hu => ?_
  refine (Any.strings_CutPrefix Tryz.laysCut s p w).mono ?_
  rintro e w' ⟨rfl, rfl⟩
  exact ⟨rfl, Below.refl _ _⟩
def atoiR (s : ByteArray) (v : Value) : Prop := match Lib.atoiAll s.data.toList with
  | .ok n => v = .tuple #[ic n, .nilIface]
  | _ => ∃ n T q, v = .tuple #[ic n, .iface T q]
theorem atoi_c {s : ByteArray} {u : Mem} (g : GM u) (h : s.size ≤ 281474976710656) : Fn Tryz.prog 114 [.string s] [] u fun v own' u' => atoiR s v ∧ own' = [] ∧ u' = u := by
  refine Fn.of_below en114 fun w hu => ?_
  unfold atoiR
  cases ha : Lib.atoiAll s.data.toList with
  | ok n =>
    refine (Any.strconv_Atoi_ok Tryz.laysAtoi s (by omega) n ha w).mono ?_
    rintro e w' ⟨rfl, hw⟩
    refine ⟨_, rfl, rfl, ?_⟩
    rcases hw with rfl | ⟨t, rfl⟩
    · exact Below.refl _ _
    · exact Lib.bytesWorld_below _ _ _
  | range =>
    obtain ⟨tp, p, hv⟩ := g.range hu
    refine (Any.strconv_Atoi_range_var Tryz.laysAtoi s h ha tp p w hv).mono ?_
    rintro e w' ⟨N, rfl, _, _, hb⟩
    exact ⟨_, rfl, ⟨_, _, _, rfl⟩, hb⟩
  | _ =>
    obtain ⟨tp, p, hv⟩ := g.synt hu
    refine (Any.strconv_Atoi_syntax_var Tryz.laysAtoi s h ha tp p w hv).mono ?_
    rintro e w' ⟨N, rfl, _, _, hb⟩
    exact ⟨_, rfl, ⟨_, _, _, rfl⟩, hb⟩
end Go.Proofs.YtenmmfkgopffgaaGreatDoor
