/- Part 32 of the proofs that the program's StateBack and StateBalance return true (texts Uc joined): what its functions compute. -/
import Derived.Test.YtenmmfkgopffgaaGreatDoorMbe
import Derived.Test.YtenmmfkgopffgaaGreatDoorCards
import Derived.Test.YtenmmfkgopffgaaGreatDoorTie
import Derived.WalkKit
import Derived.ProofKit
import Derived.Deep.DeepHandedRow
import Derived.Deep.DeepWitnessRowRef
import Derived.Deep.DeepLaidRun
import Derived.Lib.LaidTab
import Derived.Stop.LaidErr
set_option linter.unusedVariables false
set_option linter.unusedSimpArgs false
set_option maxRecDepth 100000
set_option linter.unnecessarySimpa false
namespace Go.Proofs.YtenmmfkgopffgaaGreatDoor
open Go
open Go.ChangeShapes Go.WideShapes Go.ChangeAt Go.RowKit
open Go.ChangeMaps (open_string shut_string)

theorem own_knob : ownKnob Tryz.prog.godebug = none := by kernel_rfl
theorem laid_out : laidOutB Tryz.prog = true := by kernel_rfl
theorem cells_of_var {W : World} {n : String} {g : Nat} {cs : Array Value} (hg : Tryz.prog.globalNamed n = some g) (h : W.var? Tryz.prog n = some cs) : ∃ T fz, W.heap[g]? = some (.cells cs T fz) := by
  unfold World.var? at h
  rw [hg] at h
  simp only [Option.bind_some] at h
  split at h
  · simp only [Option.some.injEq] at h; subst h; exact ⟨_, _, by assumption⟩
  · cases h
theorem err_star : "*" ++ "errors.errorString" = "*errors.errorString" := by decide
theorem err_row (u : TypeId) (h : Tryz.prog.typeName? 3 u = some "*errors.errorString") : u = 213 :=
  typeName_ptr_named (nm := "errors.errorString") (by rw [err_star]; kernel_rfl) (by kernel_rfl) (by decide) u (by rw [err_star]; exact h)
def lawLaid : List (String × DataW Unit) := [("math/bits.deBruijn32tab", Rows.laid_math_bits_deBruijn32tab), ("math/bits.deBruijn64tab", Rows.laid_math_bits_deBruijn64tab), ("internal/strconv.uint64pow10", Rows.laid_internal_strconv_uint64pow10), ("strconv.ErrRange", Rows.laid_strconv_ErrRange), ("strconv.ErrSyntax", Rows.laid_strconv_ErrSyntax)]
theorem gm_of {W : World} (h : laidMetH Tryz.prog lawLaid W) : GM (WM W) := by
  have hL : laidMet Tryz.prog lawLaid W := h
  have h3 := hL.tail.tail
  have ht : Lib.TabIs Tryz.prog W "internal/strconv.uint64pow10" .u64 Lib.pow10Tab :=
    Lib.tabIs_of_head (g := 0) (t := 197) (e := 174) (n := 20) (by kernel_rfl) (by kernel_rfl) Tryz.underlying197 Tryz.underlying174 (by kernel_rfl) (by kernel_rfl) h3
  obtain ⟨T, fz, h0⟩ := cells_of_var (g := 0) (by kernel_rfl) ht
  obtain ⟨a3, s3, hv3, _⟩ := laid_sentinel (g := 3) h3.tail (by kernel_rfl) (by kernel_rfl) Tryz.underlying81 err_row Tryz.underlying213 Tryz.underlying215 rfl rfl Tryz.underlying9 (by kernel_rfl) (by kernel_rfl)
  obtain ⟨T3, fz3, h03⟩ := cells_of_var (g := 3) (by kernel_rfl) hv3
  obtain ⟨a2, s2, hv2, _⟩ := laid_sentinel (g := 2) h3.tail.tail (by kernel_rfl) (by kernel_rfl) Tryz.underlying81 err_row Tryz.underlying213 Tryz.underlying215 rfl rfl Tryz.underlying9 (by kernel_rfl) (by kernel_rfl)
  obtain ⟨T2, fz2, h02⟩ := cells_of_var (g := 2) (by kernel_rfl) hv2
  exact ⟨⟨T, fz, h0⟩, ⟨_, _, T2, fz2, h02⟩, ⟨_, _, T3, fz3, h03⟩⟩
theorem agg_of {W : World} {base : Nat} {v : Value} (h : Value.okWide Tryz.prog W .any base 27 v) : ∃ cs, v = .agg cs := by
  unfold Value.okWide at h
  rw [Tryz.underlying27] at h
  obtain ⟨cs, rfl, _⟩ := h
  exact ⟨cs, rfl⟩
theorem state_of {H : Type} {enc : TypeId × Value → H} {W : World} {base : Nat} {v : Value} {d : DataW H} {p : List MemPlace} (hv : Value.okWide Tryz.prog W .any base 27 v) (h : DataW.Trod enc Tryz.prog W 0 (fun _ => true) true 27 v d p) (hb : Rows.uptoBulk d ≤ 1048576) :
    ∃ cs s, v = .agg cs.toArray ∧ stateR (MU (WM W)) cs s := by
  obtain ⟨cs, rfl⟩ := agg_of hv
  obtain ⟨n, hn⟩ := h
  obtain ⟨_, s, hs⟩ := op_state H enc W 0 _ true n _ _ hn hb
  exact ⟨cs.toList, s, by simp, hs⟩
theorem below_of {W W' : World} {own' : List HP} {u u' : Mem} (hi : Inv ⟨W, fun _ => none, u⟩ own' u' W') : Below W.heap.size W W' :=
  ⟨hi.os, hi.tape, hi.output, hi.size, fun k hk => hi.keep k hk rfl⟩
theorem readable27 : Tryz.prog.readableRec 27 = true := by kernel_rfl
theorem readable9 : Tryz.prog.readableRec 9 = true := by kernel_rfl
theorem lt27 : 27 < Tryz.prog.types.size := of_decide_eq_true (by kernel_rfl)
theorem lt9 : 9 < Tryz.prog.types.size := of_decide_eq_true (by kernel_rfl)
theorem balance_contract (H : Type) (enc : TypeId × Value → H) (W : World) (base : Nat) (args : Array Value) (ds gs : List (DataW H)) (before : List MemPlace)
    (hval : ∀ (j : Nat) t v, Tryz.f5.params[j]? = some t → args[j]? = some v → Value.okWide Tryz.prog W .any base t v)
    (hW : DataW.Whole enc Tryz.prog Tryz.f5.params.toList Rows.stateBalanceSpec.vars false W args.toList ds gs before) (hk : Rows.uptoSmall H (ds ++ gs) = true) (hL : laidMetH Tryz.prog lawLaid W) :
    Calls Tryz.prog 5 args W fun e W' => ∃ v, e = .returned v ∧ Rows.stateBalanceSpec.post enc Tryz.prog Tryz.f5 false true false false W args v W' := by
  have hW' := hW
  obtain ⟨p, q, hA0, hV, rfl, hfz, hnd⟩ := hW
  have hA : DataW.TrodAll enc Tryz.prog W 0 (fun _ => true) true Tryz.f5.params.toList args.toList ds p := hA0
  rw [Tryz.params5] at hA hval
  obtain ⟨v0, d0, rfl, rfl, h0⟩ := trodAll_one hA
  obtain ⟨rfl, rfl⟩ := trodVars_none hV
  clear hA0
  simp only [List.append_nil] at hW'
  have hbk := of_decide_eq_true hk
  simp only [List.append_nil, Rows.uptoBulkAll] at hbk
  have ho0 := hval 0 27 v0 rfl rfl
  obtain ⟨cs, s, rfl, hs⟩ := state_of ho0 h0 (by omega)
  have hf := stateBalance_c small_c (gm_of hL) hs
  refine (hf.2 W (fun _ => none) (fun _ => rfl) (fun b => .inr rfl) (fun b o h => by cases h) (fun b o h => h)).mono ?_
  rintro e W' ⟨v, own', u', rfl, ⟨rfl, rfl⟩, hi⟩
  have bel := below_of hi
  have hlt : ∀ x ∈ p, x.block < W.heap.size := fun x hx => hW'.lt x (by simpa using hx)
  refine ⟨_, rfl, _, _, _, [], p ++ [], [], hW', ?_, ?_, rfl, bel.frame _, fun h => by cases h⟩
  · exact trodAll_cons_mk (shut_bool Tryz.underlying4 _) trodAll_mk0
  · exact trodAll_cons_mk (Below.trod laid_out readable27 lt27 h0 bel hlt) trodAll_mk0
theorem back_contract (H : Type) (enc : TypeId × Value → H) (W : World) (base : Nat) (args : Array Value) (ds gs : List (DataW H)) (before : List MemPlace)
    (hval : ∀ (j : Nat) t v, Tryz.f3.params[j]? = some t → args[j]? = some v → Value.okWide Tryz.prog W .any base t v)
    (hW : DataW.Whole enc Tryz.prog Tryz.f3.params.toList Rows.stateBackSpec.vars false W args.toList ds gs before) (hk : Rows.uptoSmall H (ds ++ gs) = true) (hL : laidMetH Tryz.prog lawLaid W) :
    Calls Tryz.prog 3 args W fun e W' => ∃ v, e = .returned v ∧ Rows.stateBackSpec.post enc Tryz.prog Tryz.f3 false true false false W args v W' := by
  have hW' := hW
  obtain ⟨p, q, hA0, hV, rfl, hfz, hnd⟩ := hW
  have hA : DataW.TrodAll enc Tryz.prog W 0 (fun _ => true) true Tryz.f3.params.toList args.toList ds p := hA0
  rw [Tryz.params3] at hA hval
  obtain ⟨v0, vs0, d0, ds0, p0, q0, hargs0, rfl, rfl, h0, r0⟩ := trodAll_cons hA
  obtain ⟨v1, vs1, d1, ds1, p1, q1, rfl, rfl, rfl, h1, r1⟩ := trodAll_cons r0
  obtain ⟨v2, vs2, d2, ds2, p2, q2, rfl, rfl, rfl, h2, r2⟩ := trodAll_cons r1
  obtain ⟨rfl, rfl, rfl⟩ := trodAll_nil r2
  obtain rfl : args = #[v0, v1, v2] := by cases args; simp_all
  obtain ⟨rfl, rfl⟩ := trodVars_none hV
  clear hA0
  simp only [List.append_nil] at hW'
  have hbk := of_decide_eq_true hk
  simp only [List.append_nil, Rows.uptoBulkAll] at hbk
  have ho0 := hval 0 27 v0 rfl rfl
  have ho1 := hval 1 27 v1 rfl rfl
  have hlt : ∀ x ∈ p0 ++ (p1 ++ p2), x.block < W.heap.size := fun x hx => hW'.lt x (by simpa using hx)
  have h2k := h2
  obtain ⟨t, rfl, rfl, rfl, ht⟩ := open_string Tryz.underlying9 (hval 2 9 v2 rfl rfl) h2
  obtain ⟨cs, s, rfl, hs⟩ := state_of ho0 h0 (by omega)
  obtain ⟨cs', s', rfl, hs'⟩ := state_of ho1 h1 (by omega)
  have htl : t.data.toList.length ≤ maxR := by
    simp only [Rows.uptoBulk] at hbk
    unfold maxR
    omega
  have hf := stateBack_c small_c (gm_of hL) hs hs' htl
  have hte : sv t.data.toList = .string t := by unfold sv; rw [← ba_eta]
  rw [hte] at hf
  refine (hf.2 W (fun _ => none) (fun _ => rfl) (fun b => .inr rfl) (fun b o h => by cases h) (fun b o h => h)).mono ?_
  rintro e W' ⟨v, own', u', rfl, ⟨rfl, rfl⟩, hi⟩
  have bel := below_of hi
  refine ⟨_, rfl, _, _, _, [], p0 ++ (p1 ++ ([] ++ [])), [], hW', ?_, ?_, rfl, bel.frame _, fun h => by cases h⟩
  · exact trodAll_cons_mk (shut_bool Tryz.underlying4 _) trodAll_mk0
  · exact trodAll_cons_mk (Below.trod laid_out readable27 lt27 h0 bel (fun x hx => hlt x (by simp [hx]))) (trodAll_cons_mk (Below.trod laid_out readable27 lt27 h1 bel (fun x hx => hlt x (by simp [hx]))) (trodAll_cons_mk (Below.trod laid_out readable9 lt9 h2k bel (fun x hx => by cases hx)) trodAll_mk0))
noncomputable def laidWorld (os : Os) : World :=
  let N := (World.settled Tryz.prog os).heap.size
  let w0 := World.holding Tryz.prog os ⟨#[.cells #[.string ⟨#[105, 110, 118, 97, 108, 105, 100, 32, 115, 121, 110, 116, 97, 120]⟩] 215, .cells #[.string ⟨#[118, 97, 108, 117, 101, 32, 111, 117, 116, 32, 111, 102, 32, 114, 97, 110, 103, 101]⟩] 215], #[], []⟩
  let put (h : Array Obj) (g : Nat) (cs : Array Value) : Array Obj := h.modify g fun
    | .cells _ t frozen => .cells cs t frozen
    | o => o
  let h0 := put w0.heap 0 (Lib.pow10Tab.map fun z => Value.int .u64 z).toArray
  let h2 := put h0 2 #[.iface 213 (.pointer (some ⟨N, 0, none⟩))]
  let h3 := put h2 3 #[.iface 213 (.pointer (some ⟨N + 1, 0, none⟩))]
  let h4 := put h3 4 (#[0, 1, 28, 2, 29, 14, 24, 3, 30, 22, 20, 15, 25, 17, 4, 8, 31, 27, 13, 23, 21, 19, 16, 7, 26, 12, 18, 6, 11, 5, 10, 9].map fun z => Value.int .u8 z)
  let h5 := put h4 5 (#[0, 1, 56, 2, 57, 49, 28, 3, 61, 58, 42, 50, 38, 29, 17, 4, 62, 47, 59, 36, 45, 43, 51, 22, 53, 39, 33, 30, 24, 18, 12, 5, 63, 55, 48, 27, 60, 41, 37, 16, 46, 35, 44, 21, 52, 32, 23, 11, 54, 26, 40, 15, 34, 20, 31, 10, 25, 14, 19, 9, 13, 8, 7, 6].map fun z => Value.int .u8 z)
  { w0 with heap := h5 }
theorem laid_met (os : Os) (args : Array Value) : laidMet Tryz.prog lawLaid ((laidWorld os).forCall (fun _ _ => 0) ⟨#[], args, []⟩).memory :=
  laidMet_of_run3 8 (by kernel_rfl) (by kernel_rfl) (by kernel_rfl)
end Go.Proofs.YtenmmfkgopffgaaGreatDoor
