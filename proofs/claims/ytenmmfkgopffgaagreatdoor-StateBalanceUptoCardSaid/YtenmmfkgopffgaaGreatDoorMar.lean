/- Part 18 of the proofs that the program's StateBack and StateBalance return true (texts Ce joined): what its functions compute. -/
import Derived.Test.YtenmmfkgopffgaaGreatDoorFj
import Derived.Test.YtenmmfkgopffgaaGreatDoorProg
set_option linter.unusedVariables false
set_option linter.unusedSimpArgs false
set_option maxRecDepth 100000
namespace Go.Proofs.YtenmmfkgopffgaaGreatDoor
open Go
def r9_0a : List I := .i (.p 3 [] (.mv (.const (.int .i64 0))))::[]
def r9_0 : List I := .i (.a (some 2) (.box 2 27 [.int .i64 0,.slice none 0 0,.slice none 0 0,.slice none 0 0,.slice none 0 0]))::r9_0a
def r9_1d : List I := .i (.a none (.bst 4 0 1 (.tmp 4) (.tmp 8)))::[]
def r9_1c : List I := .i (.a (some 4) (.box 4 91 [.pointer none]))::r9_1d
def r9_1b : List I := .i (.p 8 [] (.mks [.pointer none] [(0,1,.tmp 7)]))::r9_1c
def r9_1a : List I := .i (.a (some 7) (.call 28 [.tmp 6]))::r9_1b
def r9_1 : List I := .i (.p 6 [] (.mv (.tmp 0)))::r9_1a
def r9_2h : List I0 := .a none (.bst 5 0 5 (.tmp 5) (.tmp 15))::[]
def r9_2g : List I0 := .a (some 5) (.box 5 27 [.int .i64 0,.slice none 0 0,.slice none 0 0,.slice none 0 0,.slice none 0 0])::r9_2h
def r9_2f : List I0 := .p 15 [] (.mks [.int .i64 0,.slice none 0 0,.slice none 0 0,.slice none 0 0,.slice none 0 0] [(0,1,.tmp 11),(1,1,.tmp 14)])::r9_2g
def r9_2e : List I0 := .a (some 14) (.call 30 [.tmp 13])::r9_2f
def r9_2d : List I0 := .a (some 11) (.call 29 [.tmp 10])::r9_2e
def r9_2c : List I0 := .ld 13 [] (.tmp 12) 1 false::r9_2d
def r9_2b : List I0 := .p 12 [] (.fad (.tmp 4) 0)::r9_2c
def r9_2a : List I0 := .ld 10 [] (.tmp 9) 1 false::r9_2b
def r9_2 : List I0 := .p 9 [] (.fad (.tmp 4) 0)::r9_2a
def r9_3b : List I := .i (.a (some 18) (.call 31 [.tmp 16,.tmp 17]))::[]
def r9_3a : List I := .i (.p 17 [] (.mkf 32 [] [.tmp 5,.tmp 4]))::r9_3b
def r9_3 : List I := .i (.ld 16 [] (.tmp 4) 1 true)::r9_3a
def r9_4b : List I := .i (.a (some 21) (.call 31 [.tmp 19,.tmp 20]))::[]
def r9_4a : List I := .i (.p 20 [] (.mkf 34 [] [.tmp 5,.tmp 4]))::r9_4b
def r9_4 : List I := .i (.ld 19 [] (.tmp 4) 1 true)::r9_4a
def r9_5b : List I := .i (.a (some 24) (.call 31 [.tmp 22,.tmp 23]))::[]
def r9_5a : List I := .i (.p 23 [] (.mkf 36 [] [.tmp 5,.tmp 4]))::r9_5b
def r9_5 : List I := .i (.ld 22 [] (.tmp 4) 1 true)::r9_5a
def r9_6g : List I := .i (.p 37 [(34,false)] (.mv (.tmp 0)))::.i (.p 38 [(34,false)] (.sb .neq (.tmp 36) (.tmp 37)))::.i (.p 39 [] (.pick (.tmp 34) (.const (.bool true)) (.tmp 38)))::[]
def r9_6f : List I := .i (.qc 36 [(34,false)] (.func 8) [.tmp 35])::r9_6g
def r9_6e : List I := .i (.p 32 [(29,false)] (.not (.tmp 31)))::.i (.p 33 [] (.pick (.tmp 29) (.const (.bool true)) (.tmp 32)))::.i (.p 34 [] (.mv (.tmp 33)))::.i (.p 35 [(34,false)] (.bld 5 0 5 true (.tmp 5)))::r9_6f
def r9_6d : List I := .i (.qc 31 [(29,false)] (.func 10) [.tmp 30])::r9_6e
def r9_6c : List I := .i (.p 28 [] (.not (.tmp 27)))::.i (.p 29 [] (.mv (.tmp 28)))::.i (.p 30 [(29,false)] (.bld 5 0 5 true (.tmp 5)))::r9_6d
def r9_6b : List I := .i (.a (some 27) (.call 37 [.tmp 26]))::r9_6c
def r9_6a : List I := .i (.ld 26 [] (.tmp 25) 1 false)::r9_6b
def r9_6 : List I := .i (.p 25 [] (.fad (.tmp 4) 0))::r9_6a
def r9_7b : List I := .i (.p 3 [] (.mv (.const (.int .i64 2))))::[]
def r9_7a : List I := .i (.a none (.bst 2 0 5 (.tmp 2) (.tmp 40)))::r9_7b
def r9_7 : List I := .i (.p 40 [] (.mks [.int .i64 0,.slice none 0 0,.slice none 0 0,.slice none 0 0,.slice none 0 0] []))::r9_7a
def k9_1 : SC := .seq (.reg r9_7 [2,3] [2,4,5,900,901]) .ret
def k9_2 : SC := .cnd (.tmp 39) k9_1 .skip
def r9_8b : List I := .i (.p 3 [] (.mv (.const (.int .i64 0))))::[]
def r9_8a : List I := .i (.a none (.bst 2 0 5 (.tmp 2) (.tmp 41)))::r9_8b
def r9_8 : List I := .i (.p 41 [] (.bld 5 0 5 true (.tmp 5)))::r9_8a
def k9_3 : SC := .seq (.reg r9_6 [2,5,39] [2,4,5,900,901]) k9_2
def k9_4 : SC := .seq (.reg r9_8 [2,3] [2,4,5,900,901]) .ret
def k9_5 : SC := .seq k9_3 k9_4
def k9_6 : SC := .seq (.reg r9_5 [0,2,4,5] [2,4,5,900,901]) k9_5
def k9_7 : SC := .seq (.reg r9_4 [0,2,4,5] [2,4,5,900,901]) k9_6
def k9_8 : SC := .seq (.reg r9_3 [0,2,4,5] [2,4,5,900,901]) k9_7
def k9_9 : SC := .seq (.drw [0,1,3,4,2,5,6,7,8] r9_2 [0,2,4,5] [2,4,5,900,901]) k9_8
def k9_10 : SC := .seq (.reg r9_1 [0,2,4] [2,4,900,901]) k9_9
def s9 : SC := .seq (.reg r9_0 [0,2] [2,900,901]) k9_10
theorem ck9 : chkC Tryz.prog Tryz.f9.ntmps (chkD Tryz.prog Tryz.f9.ntmps) s9 (Tryz.f9.body.getD .skip) = true := by kernel_rfl
theorem en9 : Ent Tryz.prog 9 := ⟨_,Tryz.func9,by kernel_rfl,by kernel_rfl⟩
theorem fn9 {a0 : Value} {own : List HP} {u : Mem} {Q : Value → List HP → Mem → Prop} (h : ∀ cx : Ctx,cx.u = u → W Tryz.prog (chkD Tryz.prog) Tryz.f9.ntmps cx s9 (RetQ cx [.c 2 5 true,.t 3] Q) (env0 0 [a0]) [] own u) : Fn Tryz.prog 9 [a0] own u Q :=
  Fn_of_W (fn := Tryz.f9) (c := Tryz.f9.body.getD .skip) Tryz.func9 (by kernel_rfl) (by kernel_rfl) ck9 (by kernel_rfl) (Nat.le_of_ble_eq_true (by kernel_rfl)) h
def r28_0 : List I := .i (.p 2 [] (.mv (.const (.pointer none))))::[]
def r28_1b : List I := .i (.p 2 [] (.mv (.tmp 5)))::[]
def r28_1a : List I := .i (.a (some 5) (.boxv 5 129 (.tmp 4)))::r28_1b
def r28_1 : List I := .i (.p 3 [] (.mv (.tmp 0)))::.i (.p 4 [] (.mks [.string ⟨#[]⟩,.bool false] [(0,1,.tmp 3)]))::r28_1a
def k28_1 : SC := .seq (.reg r28_1 [2] [5,900,901]) .ret
def s28 : SC := .seq (.reg r28_0 [0] [900,901]) k28_1
theorem ck28 : chkC Tryz.prog Tryz.f28.ntmps (chkD Tryz.prog Tryz.f28.ntmps) s28 (Tryz.f28.body.getD .skip) = true := by kernel_rfl
theorem en28 : Ent Tryz.prog 28 := ⟨_,Tryz.func28,by kernel_rfl,by kernel_rfl⟩
theorem fn28 {a0 : Value} {own : List HP} {u : Mem} {Q : Value → List HP → Mem → Prop} (h : ∀ cx : Ctx,cx.u = u → W Tryz.prog (chkD Tryz.prog) Tryz.f28.ntmps cx s28 (RetQ cx [.t 2] Q) (env0 0 [a0]) [] own u) : Fn Tryz.prog 28 [a0] own u Q :=
  Fn_of_W (fn := Tryz.f28) (c := Tryz.f28.body.getD .skip) Tryz.func28 (by kernel_rfl) (by kernel_rfl) ck28 (by kernel_rfl) (Nat.le_of_ble_eq_true (by kernel_rfl)) h
def r29_0 : List I := .i (.p 2 [] (.mv (.const (.int .i64 0))))::[]
def r29_1b : List I := .i (.p 2 [] (.mv (.tmp 4)))::[]
def r29_1a : List I := .i (.a (some 4) (.call 71 [.tmp 3,.const (.int .u8 59),.const (.int .i64 0)]))::r29_1b
def r29_1 : List I := .i (.p 3 [] (.mv (.tmp 0)))::r29_1a
def k29_1 : SC := .seq (.reg r29_1 [2] [900,901]) .ret
def s29 : SC := .seq (.reg r29_0 [0] [900,901]) k29_1
theorem ck29 : chkC Tryz.prog Tryz.f29.ntmps (chkD Tryz.prog Tryz.f29.ntmps) s29 (Tryz.f29.body.getD .skip) = true := by kernel_rfl
theorem en29 : Ent Tryz.prog 29 := ⟨_,Tryz.func29,by kernel_rfl,by kernel_rfl⟩
theorem fn29 {a0 : Value} {own : List HP} {u : Mem} {Q : Value → List HP → Mem → Prop} (h : ∀ cx : Ctx,cx.u = u → W Tryz.prog (chkD Tryz.prog) Tryz.f29.ntmps cx s29 (RetQ cx [.t 2] Q) (env0 0 [a0]) [] own u) : Fn Tryz.prog 29 [a0] own u Q :=
  Fn_of_W (fn := Tryz.f29) (c := Tryz.f29.body.getD .skip) Tryz.func29 (by kernel_rfl) (by kernel_rfl) ck29 (by kernel_rfl) (Nat.le_of_ble_eq_true (by kernel_rfl)) h
def r30_0 : List I := .i (.p 2 [] (.mv (.const (.slice none 0 0))))::[]
def r30_1b : List I := .i (.p 2 [] (.mv (.tmp 6)))::[]
def r30_1a : List I := .i (.a (some 6) (.call 72 [.tmp 3,.tmp 5]))::r30_1b
def r30_1 : List I := .i (.p 3 [] (.mv (.tmp 0)))::.i (.p 4 [] (.mv (.tmp 0)))::.i (.p 5 [] (.mkf 35 [.tmp 4] []))::r30_1a
def k30_1 : SC := .seq (.reg r30_1 [2] [900,901]) .ret
def s30 : SC := .seq (.reg r30_0 [0] [900,901]) k30_1
theorem ck30 : chkC Tryz.prog Tryz.f30.ntmps (chkD Tryz.prog Tryz.f30.ntmps) s30 (Tryz.f30.body.getD .skip) = true := by kernel_rfl
theorem en30 : Ent Tryz.prog 30 := ⟨_,Tryz.func30,by kernel_rfl,by kernel_rfl⟩
theorem fn30 {a0 : Value} {own : List HP} {u : Mem} {Q : Value → List HP → Mem → Prop} (h : ∀ cx : Ctx,cx.u = u → W Tryz.prog (chkD Tryz.prog) Tryz.f30.ntmps cx s30 (RetQ cx [.t 2] Q) (env0 0 [a0]) [] own u) : Fn Tryz.prog 30 [a0] own u Q :=
  Fn_of_W (fn := Tryz.f30) (c := Tryz.f30.body.getD .skip) Tryz.func30 (by kernel_rfl) (by kernel_rfl) ck30 (by kernel_rfl) (Nat.le_of_ble_eq_true (by kernel_rfl)) h
def r31_0 : List I := .i (.a (some 2) (.boxv 2 91 (.tmp 0)))::[]
def r31_1b : List I := .i (.p 4 [] (.mv (.tmp 7)))::[]
def r31_1a : List I := .i (.a (some 7) (.call 29 [.tmp 6]))::r31_1b
def r31_1 : List I := .i (.p 5 [] (.fad (.tmp 2) 0))::.i (.p 6 [] (.bld 2 0 1 false (.tmp 5)))::r31_1a
def r31_2a_gb : List I0 := .p 14 [] (.ib .gtr .i64 (.tmp 13) (.const (.int .i64 0)))::[]
def r31_2a_ga : List I0 := .a (some 13) (.call 73 [.tmp 12])::r31_2a_gb
def r31_2a_g : List I0 := .p 11 [] (.fad (.tmp 2) 0)::.p 12 [] (.bld 2 0 1 false (.tmp 11))::r31_2a_ga
def r31_2b : List I := .i (.p 15 [] (.picl (.tmp 10) (.tmp 14) (.const (.bool false))))::[]
def r31_2a : List I := .g 10 true r31_2a_g::r31_2b
def r31_2 : List I := .i (.p 8 [] (.mv (.tmp 4)))::.i (.p 9 [] (.ib .gtr .i64 (.tmp 8) (.const (.int .i64 0))))::.i (.p 10 [] (.mv (.tmp 9)))::r31_2a
def k31_1 : SC := .cnd (.tmp 15) .skip (.exit 0)
def r31_4a : List I := .i (.a (some 19) (.callv (.tmp 18) []))::[]
def r31_4 : List I := .i (.p 18 [] (.mv (.tmp 1)))::r31_4a
def k31_2 : SC := .reg r31_4 [1,2,4] [2,900,901]
def r31_3 : List I := .i (.p 16 [] (.mv (.tmp 4)))::.i (.p 17 [] (.ib .sub .i64 (.tmp 16) (.const (.int .i64 1))))::.i (.p 4 [] (.mv (.tmp 17)))::[]
def k31_3 : SC := .blk 1 k31_2
def k31_4 : SC := .reg r31_3 [1,2,4] [2,900,901]
def k31_5 : SC := .seq (.reg r31_2 [1,2,4,15] [2,900,901]) k31_1
def k31_6 : SC := .seq k31_3 k31_4
def k31_7 : SC := .seq k31_5 k31_6
def k31_8 : SC := .loop k31_7
def k31_9 : SC := .blk 0 k31_8
def k31_10 : SC := .seq (.reg r31_1 [1,2,4] [2,900,901]) k31_9
def s31 : SC := .seq (.reg r31_0 [1,2] [2,900,901]) k31_10
theorem ck31 : chkC Tryz.prog Tryz.f31.ntmps (chkD Tryz.prog Tryz.f31.ntmps) s31 (Tryz.f31.body.getD .skip) = true := by kernel_rfl
theorem en31 : Ent Tryz.prog 31 := ⟨_,Tryz.func31,by kernel_rfl,by kernel_rfl⟩
theorem fn31 {a0 a1 : Value} {own : List HP} {u : Mem} {Q : Value → List HP → Mem → Prop} (h : ∀ cx : Ctx,cx.u = u → W Tryz.prog (chkD Tryz.prog) Tryz.f31.ntmps cx s31 (RetQ cx [] Q) (env0 0 [a0,a1]) [] own u) : Fn Tryz.prog 31 [a0,a1] own u Q :=
  Fn_of_W (fn := Tryz.f31) (c := Tryz.f31.body.getD .skip) Tryz.func31 (by kernel_rfl) (by kernel_rfl) ck31 (by kernel_rfl) (Nat.le_of_ble_eq_true (by kernel_rfl)) h
def r32_0f : List I0 := .a none (.bst 0 2 1 (.tmp 8) (.tmp 7))::[]
def r32_0e : List I0 := .p 8 [] (.fad (.tmp 0) 2)::r32_0f
def r32_0d : List I0 := .a (some 7) (.app 50 15 256 (.tmp 3) (.tmp 6))::r32_0e
def r32_0c : List I0 := .a (some 6) (.bsp 50 15 [.tmp 5])::r32_0d
def r32_0b : List I0 := .a (some 5) (.call 33 [.tmp 4])::r32_0c
def r32_0a : List I0 := .ld 4 [] (.tmp 1) 1 true::r32_0b
def r32_0 : List I0 := .p 2 [] (.fad (.tmp 0) 2)::.p 3 [] (.bld 0 2 1 false (.tmp 2))::r32_0a
def s32 : SC := .drw [0,1,2,3,4,5,6,7] r32_0 [] [0,900,901]
theorem ck32 : chkC Tryz.prog Tryz.f32.ntmps (chkD Tryz.prog Tryz.f32.ntmps) s32 (Tryz.f32.body.getD .skip) = true := by kernel_rfl
theorem en32 : Ent Tryz.prog 32 := ⟨_,Tryz.func32,by kernel_rfl,by kernel_rfl⟩
theorem fn32 {a0 a1 : Value} {own : List HP} {u : Mem} {Q : Value → List HP → Mem → Prop} (h : ∀ cx : Ctx,cx.u = u → W Tryz.prog (chkD Tryz.prog) Tryz.f32.ntmps cx s32 (RetQ cx [] Q) (env0 0 [a0,a1]) [] own u) : Fn Tryz.prog 32 [a0,a1] own u Q :=
  Fn_of_W (fn := Tryz.f32) (c := Tryz.f32.body.getD .skip) Tryz.func32 (by kernel_rfl) (by kernel_rfl) ck32 (by kernel_rfl) (Nat.le_of_ble_eq_true (by kernel_rfl)) h
def r33_0a : List I := .i (.a (some 2) (.box 2 50 [.int .i64 0,.int .i64 0,.string ⟨#[]⟩,.int .i64 0,.int .i64 0,.slice none 0 0,.slice none 0 0,.slice none 0 0,.slice none 0 0,.slice none 0 0,.slice none 0 0,.slice none 0 0,.slice none 0 0,.int .i64 0,.bool false]))::[]
def r33_0 : List I := .i (.a (some 1) (.boxv 1 91 (.tmp 0)))::r33_0a
def r33_1q : List I0 := .a none (.bst 3 0 15 (.tmp 3) (.tmp 19))::[]
def r33_1p : List I0 := .a (some 3) (.box 3 50 [.int .i64 0,.int .i64 0,.string ⟨#[]⟩,.int .i64 0,.int .i64 0,.slice none 0 0,.slice none 0 0,.slice none 0 0,.slice none 0 0,.slice none 0 0,.slice none 0 0,.slice none 0 0,.slice none 0 0,.int .i64 0,.bool false])::r33_1q
def r33_1o : List I0 := .p 19 [] (.mks [.int .i64 0,.int .i64 0,.string ⟨#[]⟩,.int .i64 0,.int .i64 0,.slice none 0 0,.slice none 0 0,.slice none 0 0,.slice none 0 0,.slice none 0 0,.slice none 0 0,.slice none 0 0,.slice none 0 0,.int .i64 0,.bool false] [(0,1,.tmp 6),(1,1,.tmp 9),(2,1,.tmp 12),(3,1,.tmp 15),(4,1,.tmp 18)])::r33_1p
def r33_1n : List I0 := .a (some 18) (.call 29 [.tmp 17])::r33_1o
def r33_1m : List I0 := .a (some 15) (.call 29 [.tmp 14])::r33_1n
def r33_1l : List I0 := .a (some 12) (.call 74 [.tmp 11])::r33_1m
def r33_1k : List I0 := .a (some 9) (.call 29 [.tmp 8])::r33_1l
def r33_1j : List I0 := .a (some 6) (.call 29 [.tmp 5])::r33_1k
def r33_1i : List I0 := .ld 17 [] (.tmp 16) 1 false::r33_1j
def r33_1h : List I0 := .p 16 [] (.fad (.tmp 1) 0)::r33_1i
def r33_1g : List I0 := .ld 14 [] (.tmp 13) 1 false::r33_1h
def r33_1f : List I0 := .p 13 [] (.fad (.tmp 1) 0)::r33_1g
def r33_1e : List I0 := .ld 11 [] (.tmp 10) 1 false::r33_1f
def r33_1d : List I0 := .p 10 [] (.fad (.tmp 1) 0)::r33_1e
def r33_1c : List I0 := .ld 8 [] (.tmp 7) 1 false::r33_1d
def r33_1b : List I0 := .p 7 [] (.fad (.tmp 1) 0)::r33_1c
def r33_1a : List I0 := .ld 5 [] (.tmp 4) 1 false::r33_1b
def r33_1 : List I0 := .p 4 [] (.fad (.tmp 1) 0)::r33_1a
def r33_2b : List I := .i (.a (some 22) (.call 31 [.tmp 20,.tmp 21]))::[]
def r33_2a : List I := .i (.p 21 [] (.mkf 75 [] [.tmp 3,.tmp 1]))::r33_2b
def r33_2 : List I := .i (.ld 20 [] (.tmp 1) 1 true)::r33_2a
def r33_3b : List I := .i (.a (some 25) (.call 31 [.tmp 23,.tmp 24]))::[]
def r33_3a : List I := .i (.p 24 [] (.mkf 77 [] [.tmp 3,.tmp 1]))::r33_3b
def r33_3 : List I := .i (.ld 23 [] (.tmp 1) 1 true)::r33_3a
def r33_4b : List I := .i (.a (some 28) (.call 31 [.tmp 26,.tmp 27]))::[]
def r33_4a : List I := .i (.p 27 [] (.mkf 78 [] [.tmp 3,.tmp 1]))::r33_4b
def r33_4 : List I := .i (.ld 26 [] (.tmp 1) 1 true)::r33_4a
def r33_5b : List I := .i (.a (some 31) (.call 31 [.tmp 29,.tmp 30]))::[]
def r33_5a : List I := .i (.p 30 [] (.mkf 79 [] [.tmp 3,.tmp 1]))::r33_5b
def r33_5 : List I := .i (.ld 29 [] (.tmp 1) 1 true)::r33_5a
def r33_6i : List I0 := .a none (.bst 3 10 1 (.tmp 39) (.tmp 37))::[]
def r33_6h : List I0 := .p 39 [] (.fad (.tmp 3) 10)::r33_6i
def r33_6g : List I0 := .a none (.bst 3 9 1 (.tmp 38) (.tmp 34))::r33_6h
def r33_6f : List I0 := .a (some 37) (.call 30 [.tmp 36])::r33_6g
def r33_6e : List I0 := .p 38 [] (.fad (.tmp 3) 9)::r33_6f
def r33_6d : List I0 := .a (some 34) (.call 30 [.tmp 33])::r33_6e
def r33_6c : List I0 := .ld 36 [] (.tmp 35) 1 false::r33_6d
def r33_6b : List I0 := .p 35 [] (.fad (.tmp 1) 0)::r33_6c
def r33_6a : List I0 := .ld 33 [] (.tmp 32) 1 false::r33_6b
def r33_6 : List I0 := .p 32 [] (.fad (.tmp 1) 0)::r33_6a
def r33_7b : List I := .i (.a (some 42) (.call 31 [.tmp 40,.tmp 41]))::[]
def r33_7a : List I := .i (.p 41 [] (.mkf 80 [] [.tmp 3,.tmp 1]))::r33_7b
def r33_7 : List I := .i (.ld 40 [] (.tmp 1) 1 true)::r33_7a
def r33_8b : List I := .i (.a (some 45) (.call 31 [.tmp 43,.tmp 44]))::[]
def r33_8a : List I := .i (.p 44 [] (.mkf 82 [] [.tmp 3,.tmp 1]))::r33_8b
def r33_8 : List I := .i (.ld 43 [] (.tmp 1) 1 true)::r33_8a
def r33_9j : List I0 := .a none (.bst 3 14 1 (.tmp 54) (.tmp 52))::[]
def r33_9i : List I0 := .p 54 [] (.fad (.tmp 3) 14)::r33_9j
def r33_9h : List I0 := .a none (.bst 3 13 1 (.tmp 53) (.tmp 48))::r33_9i
def r33_9g : List I0 := .p 52 [] (.ib .eql .i64 (.tmp 51) (.const (.int .i64 1)))::r33_9h
def r33_9f : List I0 := .a (some 51) (.call 29 [.tmp 50])::r33_9g
def r33_9e : List I0 := .p 53 [] (.fad (.tmp 3) 13)::r33_9f
def r33_9d : List I0 := .a (some 48) (.call 35 [.tmp 47])::r33_9e
def r33_9c : List I0 := .ld 50 [] (.tmp 49) 1 false::r33_9d
def r33_9b : List I0 := .p 49 [] (.fad (.tmp 1) 0)::r33_9c
def r33_9a : List I0 := .ld 47 [] (.tmp 46) 1 false::r33_9b
def r33_9 : List I0 := .p 46 [] (.fad (.tmp 1) 0)::r33_9a
def r33_10a : List I := .i (.a none (.bst 2 0 15 (.tmp 2) (.tmp 55)))::[]
def r33_10 : List I := .i (.p 55 [] (.bld 3 0 15 true (.tmp 3)))::r33_10a
def k33_1 : SC := .seq (.reg r33_10 [2] [1,2,3,900,901]) .ret
def k33_2 : SC := .seq (.drw [0,1,3,4,2,7,5,6,8,9,10] r33_9 [2,3] [1,2,3,900,901]) k33_1
def k33_3 : SC := .seq (.reg r33_8 [1,2,3] [1,2,3,900,901]) k33_2
def k33_4 : SC := .seq (.reg r33_7 [1,2,3] [1,2,3,900,901]) k33_3
def k33_5 : SC := .seq (.drw [0,1,3,4,2,6,5,7,8,9] r33_6 [1,2,3] [1,2,3,900,901]) k33_4
def k33_6 : SC := .seq (.reg r33_5 [1,2,3] [1,2,3,900,901]) k33_5
def k33_7 : SC := .seq (.reg r33_4 [1,2,3] [1,2,3,900,901]) k33_6
def k33_8 : SC := .seq (.reg r33_3 [1,2,3] [1,2,3,900,901]) k33_7
def k33_9 : SC := .seq (.reg r33_2 [1,2,3] [1,2,3,900,901]) k33_8
def k33_10 : SC := .seq (.drw [0,1,3,4,6,7,9,10,12,13,2,5,8,11,14,15,16,17] r33_1 [1,2,3] [1,2,3,900,901]) k33_9
def s33 : SC := .seq (.reg r33_0 [1,2] [1,2,900,901]) k33_10
theorem ck33 : chkC Tryz.prog Tryz.f33.ntmps (chkD Tryz.prog Tryz.f33.ntmps) s33 (Tryz.f33.body.getD .skip) = true := by kernel_rfl
theorem en33 : Ent Tryz.prog 33 := ⟨_,Tryz.func33,by kernel_rfl,by kernel_rfl⟩
theorem fn33 {a0 : Value} {own : List HP} {u : Mem} {Q : Value → List HP → Mem → Prop} (h : ∀ cx : Ctx,cx.u = u → W Tryz.prog (chkD Tryz.prog) Tryz.f33.ntmps cx s33 (RetQ cx [.c 2 15 true] Q) (env0 0 [a0]) [] own u) : Fn Tryz.prog 33 [a0] own u Q :=
  Fn_of_W (fn := Tryz.f33) (c := Tryz.f33.body.getD .skip) Tryz.func33 (by kernel_rfl) (by kernel_rfl) ck33 (by kernel_rfl) (Nat.le_of_ble_eq_true (by kernel_rfl)) h
def r34_0z : List I0 := .a none (.bst 0 3 1 (.tmp 29) (.tmp 28))::[]
def r34_0y : List I0 := .p 29 [] (.fad (.tmp 0) 3)::r34_0z
def r34_0x : List I0 := .a (some 28) (.app 40 7 56 (.tmp 3) (.tmp 27))::r34_0y
def r34_0w : List I0 := .a (some 27) (.bsp 40 7 [.tmp 26])::r34_0x
def r34_0v : List I0 := .p 26 [] (.mks [.int .i64 0,.int .i64 0,.int .i64 0,.int .i64 0,.int .i64 0,.int .i64 0,.int .i64 0] [(0,3,.tmp 13),(3,1,.tmp 16),(4,1,.tmp 19),(5,1,.tmp 22),(6,1,.tmp 25)])::r34_0w
def r34_0u : List I0 := .a (some 25) (.call 35 [.tmp 24])::r34_0v
def r34_0t : List I0 := .a (some 22) (.call 29 [.tmp 21])::r34_0u
def r34_0s : List I0 := .a (some 19) (.call 29 [.tmp 18])::r34_0t
def r34_0r : List I0 := .a (some 16) (.call 29 [.tmp 15])::r34_0s
def r34_0q : List I0 := .p 13 [] (.mks [.int .i64 0,.int .i64 0,.int .i64 0] [(0,1,.tmp 6),(1,1,.tmp 9),(2,1,.tmp 12)])::r34_0r
def r34_0p : List I0 := .a (some 12) (.call 29 [.tmp 11])::r34_0q
def r34_0o : List I0 := .a (some 9) (.call 29 [.tmp 8])::r34_0p
def r34_0n : List I0 := .a (some 6) (.call 29 [.tmp 5])::r34_0o
def r34_0m : List I0 := .ld 24 [] (.tmp 23) 1 false::r34_0n
def r34_0l : List I0 := .p 23 [] (.fad (.tmp 1) 0)::r34_0m
def r34_0k : List I0 := .ld 21 [] (.tmp 20) 1 false::r34_0l
def r34_0j : List I0 := .p 20 [] (.fad (.tmp 1) 0)::r34_0k
def r34_0i : List I0 := .ld 18 [] (.tmp 17) 1 false::r34_0j
def r34_0h : List I0 := .p 17 [] (.fad (.tmp 1) 0)::r34_0i
def r34_0g : List I0 := .ld 15 [] (.tmp 14) 1 false::r34_0h
def r34_0f : List I0 := .p 14 [] (.fad (.tmp 1) 0)::r34_0g
def r34_0e : List I0 := .ld 11 [] (.tmp 10) 1 false::r34_0f
def r34_0d : List I0 := .p 10 [] (.fad (.tmp 1) 0)::r34_0e
def r34_0c : List I0 := .ld 8 [] (.tmp 7) 1 false::r34_0d
def r34_0b : List I0 := .p 7 [] (.fad (.tmp 1) 0)::r34_0c
def r34_0a : List I0 := .ld 5 [] (.tmp 4) 1 false::r34_0b
def r34_0 : List I0 := .p 2 [] (.fad (.tmp 0) 3)::.p 3 [] (.bld 0 3 1 false (.tmp 2))::.p 4 [] (.fad (.tmp 1) 0)::r34_0a
def s34 : SC := .drw [0,1,2,3,5,6,8,9,12,13,15,16,18,19,21,22,4,7,10,11,14,17,20,23,24,25,26,27,28] r34_0 [] [0,900,901]
theorem ck34 : chkC Tryz.prog Tryz.f34.ntmps (chkD Tryz.prog Tryz.f34.ntmps) s34 (Tryz.f34.body.getD .skip) = true := by kernel_rfl
theorem en34 : Ent Tryz.prog 34 := ⟨_,Tryz.func34,by kernel_rfl,by kernel_rfl⟩
theorem fn34 {a0 a1 : Value} {own : List HP} {u : Mem} {Q : Value → List HP → Mem → Prop} (h : ∀ cx : Ctx,cx.u = u → W Tryz.prog (chkD Tryz.prog) Tryz.f34.ntmps cx s34 (RetQ cx [] Q) (env0 0 [a0,a1]) [] own u) : Fn Tryz.prog 34 [a0,a1] own u Q :=
  Fn_of_W (fn := Tryz.f34) (c := Tryz.f34.body.getD .skip) Tryz.func34 (by kernel_rfl) (by kernel_rfl) ck34 (by kernel_rfl) (Nat.le_of_ble_eq_true (by kernel_rfl)) h
def r35_0 : List I := .i (.p 2 [] (.mv (.const (.int .i64 0))))::[]
def r35_1b : List I := .i (.p 2 [] (.mv (.tmp 4)))::[]
def r35_1a : List I := .i (.a (some 4) (.call 71 [.tmp 3,.const (.int .u8 59),.const (.int .i64 (-9223372036854775808))]))::r35_1b
def r35_1 : List I := .i (.p 3 [] (.mv (.tmp 0)))::r35_1a
def k35_1 : SC := .seq (.reg r35_1 [2] [900,901]) .ret
def s35 : SC := .seq (.reg r35_0 [0] [900,901]) k35_1
theorem ck35 : chkC Tryz.prog Tryz.f35.ntmps (chkD Tryz.prog Tryz.f35.ntmps) s35 (Tryz.f35.body.getD .skip) = true := by kernel_rfl
theorem en35 : Ent Tryz.prog 35 := ⟨_,Tryz.func35,by kernel_rfl,by kernel_rfl⟩
theorem fn35 {a0 : Value} {own : List HP} {u : Mem} {Q : Value → List HP → Mem → Prop} (h : ∀ cx : Ctx,cx.u = u → W Tryz.prog (chkD Tryz.prog) Tryz.f35.ntmps cx s35 (RetQ cx [.t 2] Q) (env0 0 [a0]) [] own u) : Fn Tryz.prog 35 [a0] own u Q :=
  Fn_of_W (fn := Tryz.f35) (c := Tryz.f35.body.getD .skip) Tryz.func35 (by kernel_rfl) (by kernel_rfl) ck35 (by kernel_rfl) (Nat.le_of_ble_eq_true (by kernel_rfl)) h
def r36_0j : List I0 := .a none (.bst 0 4 1 (.tmp 13) (.tmp 12))::[]
def r36_0i : List I0 := .p 13 [] (.fad (.tmp 0) 4)::r36_0j
def r36_0h : List I0 := .a (some 12) (.app 42 2 16 (.tmp 3) (.tmp 11))::r36_0i
def r36_0g : List I0 := .a (some 11) (.bsp 42 2 [.tmp 10])::r36_0h
def r36_0f : List I0 := .p 10 [] (.mks [.int .i64 0,.int .i64 0] [(0,1,.tmp 6),(1,1,.tmp 9)])::r36_0g
def r36_0e : List I0 := .a (some 9) (.call 29 [.tmp 8])::r36_0f
def r36_0d : List I0 := .a (some 6) (.call 29 [.tmp 5])::r36_0e
def r36_0c : List I0 := .ld 8 [] (.tmp 7) 1 false::r36_0d
def r36_0b : List I0 := .p 7 [] (.fad (.tmp 1) 0)::r36_0c
def r36_0a : List I0 := .ld 5 [] (.tmp 4) 1 false::r36_0b
def r36_0 : List I0 := .p 2 [] (.fad (.tmp 0) 4)::.p 3 [] (.bld 0 4 1 false (.tmp 2))::.p 4 [] (.fad (.tmp 1) 0)::r36_0a
def s36 : SC := .drw [0,1,2,3,5,6,4,7,8,9,10,11,12] r36_0 [] [0,900,901]
theorem ck36 : chkC Tryz.prog Tryz.f36.ntmps (chkD Tryz.prog Tryz.f36.ntmps) s36 (Tryz.f36.body.getD .skip) = true := by kernel_rfl
theorem en36 : Ent Tryz.prog 36 := ⟨_,Tryz.func36,by kernel_rfl,by kernel_rfl⟩
theorem fn36 {a0 a1 : Value} {own : List HP} {u : Mem} {Q : Value → List HP → Mem → Prop} (h : ∀ cx : Ctx,cx.u = u → W Tryz.prog (chkD Tryz.prog) Tryz.f36.ntmps cx s36 (RetQ cx [] Q) (env0 0 [a0,a1]) [] own u) : Fn Tryz.prog 36 [a0,a1] own u Q :=
  Fn_of_W (fn := Tryz.f36) (c := Tryz.f36.body.getD .skip) Tryz.func36 (by kernel_rfl) (by kernel_rfl) ck36 (by kernel_rfl) (Nat.le_of_ble_eq_true (by kernel_rfl)) h
def r37_0 : List I := .i (.p 2 [] (.mv (.const (.bool false))))::[]
def r37_1 : List I := .i (.p 3 [] (.mv (.tmp 0)))::.i (.p 4 [] (.nck (.tmp 3)))::.i (.p 5 [] (.fad (.tmp 4) 1))::.i (.p 6 [] (.bld 0 1 1 false (.tmp 5)))::.i (.p 7 [] (.not (.tmp 6)))::.i (.p 8 [] (.mv (.tmp 7)))::.i (.p 9 [(8,true)] (.mv (.tmp 0)))::.i (.p 10 [(8,true)] (.nck (.tmp 9)))::.i (.p 11 [(8,true)] (.fad (.tmp 10) 0))::.i (.p 12 [(8,true)] (.bld 0 0 1 false (.tmp 11)))::.i (.p 13 [(8,true)] (.sb .eql (.tmp 12) (.const (.string ⟨#[]⟩))))::.i (.p 14 [] (.pick (.tmp 8) (.tmp 13) (.const (.bool false))))::.i (.p 2 [] (.mv (.tmp 14)))::[]
def k37_1 : SC := .seq (.reg r37_1 [2] [0,900,901]) .ret
def s37 : SC := .seq (.reg r37_0 [0] [0,900,901]) k37_1
theorem ck37 : chkC Tryz.prog Tryz.f37.ntmps (chkD Tryz.prog Tryz.f37.ntmps) s37 (Tryz.f37.body.getD .skip) = true := by kernel_rfl
theorem en37 : Ent Tryz.prog 37 := ⟨_,Tryz.func37,by kernel_rfl,by kernel_rfl⟩
theorem fn37 {a0 : Value} {own : List HP} {u : Mem} {Q : Value → List HP → Mem → Prop} (h : ∀ cx : Ctx,cx.u = u → W Tryz.prog (chkD Tryz.prog) Tryz.f37.ntmps cx s37 (RetQ cx [.t 2] Q) (env0 0 [a0]) [] own u) : Fn Tryz.prog 37 [a0] own u Q :=
  Fn_of_W (fn := Tryz.f37) (c := Tryz.f37.body.getD .skip) Tryz.func37 (by kernel_rfl) (by kernel_rfl) ck37 (by kernel_rfl) (Nat.le_of_ble_eq_true (by kernel_rfl)) h
def r71_0 : List I := .i (.p 6 [] (.mv (.const (.int .i64 0))))::[]
def r71_1 : List I0 := .p 11 [] (.mv (.tmp 0))::.p 12 [] (.nck (.tmp 11))::.p 13 [] (.fad (.tmp 12) 0)::.p 14 [] (.bld 0 0 1 false (.tmp 13))::.p 15 [] (.mv (.tmp 0))::.p 16 [] (.nck (.tmp 15))::.p 17 [] (.fad (.tmp 16) 0)::.p 18 [] (.bld 0 0 1 false (.tmp 17))::.p 19 [] (.slen (.tmp 18))::.p 20 [] (.mnx false .i64 (.tmp 19) (.const (.int .i64 21)))::.p 21 [] (.ssl (.tmp 14) none (some (.tmp 20)))::.p 7 [] (.mv (.tmp 21))::[]
def r71_2b : List I := .i (.p 8 [] (.mv (.tmp 24)))::[]
def r71_2a : List I := .i (.a (some 24) (.call 112 [.tmp 22,.tmp 23]))::r71_2b
def r71_2 : List I := .i (.p 22 [] (.mv (.tmp 7)))::.i (.p 23 [] (.mv (.tmp 1)))::r71_2a
def r71_3 : List I := .i (.p 25 [] (.mv (.tmp 8)))::.i (.p 26 [] (.ib .lss .i64 (.tmp 25) (.const (.int .i64 0))))::[]
def r71_4a : List I := .i (.a (some 28) (.call 113 [.tmp 27]))::[]
def r71_4 : List I := .i (.p 27 [] (.mv (.tmp 0)))::r71_4a
def r71_5 : List I := .i (.p 6 [] (.mv (.const (.int .i64 0))))::[]
def k71_1 : SC := .seq (.reg r71_5 [6] [0,900,901]) .ret
def k71_2 : SC := .seq (.reg r71_4 [] [0,900,901]) k71_1
def k71_3 : SC := .cnd (.tmp 26) k71_2 .skip
def r71_6b : List I := .i (.p 29 [] (.mv (.tmp 33)))::.i (.p 34 [] (.ext (.tmp 29) 0))::.i (.p 35 [] (.ext (.tmp 29) 1))::.i (.p 9 [] (.mv (.tmp 34)))::.i (.p 10 [] (.mv (.tmp 35)))::[]
def r71_6a : List I := .i (.a (some 33) (.call 114 [.tmp 32]))::r71_6b
def r71_6 : List I := .i (.p 30 [] (.mv (.tmp 7)))::.i (.p 31 [] (.mv (.tmp 8)))::.i (.p 32 [] (.ssl (.tmp 30) none (some (.tmp 31))))::r71_6a
def r71_7b : List I0 := .p 41 [(38,false)] (.mv (.tmp 7))::.p 42 [(38,false)] (.mv (.tmp 8))::.p 43 [(38,false)] (.ssl (.tmp 41) none (some (.tmp 42)))::.p 44 [(38,false)] (.sb .neq (.tmp 40) (.tmp 43))::.p 45 [] (.pick (.tmp 38) (.const (.bool true)) (.tmp 44))::.p 46 [] (.mv (.tmp 45))::.p 47 [(46,false)] (.mv (.tmp 9))::.p 48 [(46,false)] (.mv (.tmp 2))::.p 49 [(46,false)] (.ib .lss .i64 (.tmp 47) (.tmp 48))::.p 50 [] (.pick (.tmp 46) (.const (.bool true)) (.tmp 49))::[]
def r71_7a : List I0 := .qc 40 [(38,false)] (.func 70) [.tmp 39]::r71_7b
def r71_7 : List I0 := .p 36 [] (.mv (.tmp 10))::.p 37 [] (.inl true (.tmp 36))::.p 38 [] (.mv (.tmp 37))::.p 39 [(38,false)] (.mv (.tmp 9))::r71_7a
def r71_8a : List I := .i (.a (some 52) (.call 113 [.tmp 51]))::[]
def r71_8 : List I := .i (.p 51 [] (.mv (.tmp 0)))::r71_8a
def r71_9 : List I := .i (.p 6 [] (.mv (.const (.int .i64 0))))::[]
def k71_4 : SC := .seq (.reg r71_9 [6] [0,900,901]) .ret
def k71_5 : SC := .seq (.reg r71_8 [] [0,900,901]) k71_4
def k71_6 : SC := .cnd (.tmp 50) k71_5 .skip
def r71_10a : List I := .i (.a none (.bst 0 0 1 (.tmp 62) (.tmp 60)))::[]
def r71_10 : List I := .i (.p 53 [] (.mv (.tmp 0)))::.i (.p 54 [] (.mv (.tmp 0)))::.i (.p 55 [] (.nck (.tmp 54)))::.i (.p 56 [] (.fad (.tmp 55) 0))::.i (.p 57 [] (.bld 0 0 1 false (.tmp 56)))::.i (.p 58 [] (.mv (.tmp 8)))::.i (.p 59 [] (.ib .add .i64 (.tmp 58) (.const (.int .i64 1))))::.i (.p 60 [] (.ssl (.tmp 57) (some (.tmp 59)) none))::.i (.p 61 [] (.nck (.tmp 53)))::.i (.p 62 [] (.fad (.tmp 61) 0))::r71_10a
def r71_11 : List I := .i (.p 63 [] (.mv (.tmp 9)))::.i (.p 6 [] (.mv (.tmp 63)))::[]
def k71_7 : SC := .seq (.reg r71_11 [6] [0,900,901]) .ret
def k71_8 : SC := .seq (.drw [0,1,2,3,4,5,6,7,8,9,10,11,12,13,14] r71_7 [0,8,9,50] [0,900,901]) k71_6
def k71_9 : SC := .seq (.reg r71_10 [9] [0,900,901]) k71_7
def k71_10 : SC := .seq k71_8 k71_9
def k71_11 : SC := .seq (.reg r71_3 [0,2,7,8,26] [0,900,901]) k71_3
def k71_12 : SC := .seq (.reg r71_6 [0,2,7,8,9,10] [0,900,901]) k71_10
def k71_13 : SC := .seq k71_11 k71_12
def k71_14 : SC := .seq (.reg r71_2 [0,2,7,8] [0,900,901]) k71_13
def k71_15 : SC := .seq (.drw [0,1,2,3,4,5,6,7,8,9,10,11] r71_1 [0,1,2,7] [0,900,901]) k71_14
def s71 : SC := .seq (.reg r71_0 [0,1,2] [0,900,901]) k71_15
theorem ck71 : chkC Tryz.prog Tryz.f71.ntmps (chkD Tryz.prog Tryz.f71.ntmps) s71 (Tryz.f71.body.getD .skip) = true := by kernel_rfl
theorem en71 : Ent Tryz.prog 71 := ⟨_,Tryz.func71,by kernel_rfl,by kernel_rfl⟩
theorem fn71 {a0 a1 a2 : Value} {own : List HP} {u : Mem} {Q : Value → List HP → Mem → Prop} (h : ∀ cx : Ctx,cx.u = u → W Tryz.prog (chkD Tryz.prog) Tryz.f71.ntmps cx s71 (RetQ cx [.t 6] Q) (env0 0 [a0,a1,a2]) [] own u) : Fn Tryz.prog 71 [a0,a1,a2] own u Q :=
  Fn_of_W (fn := Tryz.f71) (c := Tryz.f71.body.getD .skip) Tryz.func71 (by kernel_rfl) (by kernel_rfl) ck71 (by kernel_rfl) (Nat.le_of_ble_eq_true (by kernel_rfl)) h
def r72_0 : List I := .i (.p 4 [] (.mv (.const (.slice none 0 0))))::[]
def r72_1 : List I := .i (.p 5 [] (.mv (.const (.slice none 0 0))))::[]
def r72_2b : List I := .i (.p 6 [] (.mv (.tmp 8)))::[]
def r72_2a : List I := .i (.a (some 8) (.call 71 [.tmp 7,.const (.int .u8 91),.const (.int .i64 0)]))::r72_2b
def r72_2 : List I := .i (.p 7 [] (.mv (.tmp 0)))::r72_2a
def r72_3 : List I := .i (.p 9 [] (.mv (.tmp 6)))::.i (.p 10 [] (.ib .gtr .i64 (.tmp 9) (.const (.int .i64 0))))::.i (.p 11 [] (.mv (.tmp 10)))::.i (.p 12 [(11,true)] (.mv (.tmp 0)))::.i (.p 13 [(11,true)] (.nck (.tmp 12)))::.i (.p 14 [(11,true)] (.fad (.tmp 13) 1))::.i (.p 15 [(11,true)] (.bld 0 1 1 false (.tmp 14)))::.i (.p 16 [(11,true)] (.not (.tmp 15)))::.i (.p 17 [] (.pick (.tmp 11) (.tmp 16) (.const (.bool false))))::[]
def k72_1 : SC := .cnd (.tmp 17) .skip (.exit 0)
def r72_5d : List I := .i (.p 5 [] (.mv (.tmp 24)))::[]
def r72_5c : List I := .i (.a (some 24) (.app 3 1 8 (.tmp 20) (.tmp 23)))::r72_5d
def r72_5b : List I := .i (.a (some 23) (.bsp 3 1 [.tmp 22]))::r72_5c
def r72_5a : List I := .i (.a (some 22) (.callv (.tmp 21) []))::r72_5b
def r72_5 : List I := .i (.p 20 [] (.mv (.tmp 5)))::.i (.p 21 [] (.mv (.tmp 1)))::r72_5a
def k72_2 : SC := .reg r72_5 [0,1,5,6] [0,900,901]
def r72_4 : List I := .i (.p 18 [] (.mv (.tmp 6)))::.i (.p 19 [] (.ib .sub .i64 (.tmp 18) (.const (.int .i64 1))))::.i (.p 6 [] (.mv (.tmp 19)))::[]
def k72_3 : SC := .blk 1 k72_2
def k72_4 : SC := .reg r72_4 [0,1,5,6] [0,900,901]
def k72_5 : SC := .seq (.reg r72_3 [0,1,5,6,17] [0,900,901]) k72_1
def k72_6 : SC := .seq k72_3 k72_4
def k72_7 : SC := .seq k72_5 k72_6
def k72_8 : SC := .loop k72_7
def k72_9 : SC := .blk 0 k72_8
def r72_6a : List I := .i (.a (some 26) (.call 115 [.tmp 25,.const (.string ⟨#[93]⟩)]))::[]
def r72_6 : List I := .i (.p 25 [] (.mv (.tmp 0)))::r72_6a
def r72_7 : List I := .i (.p 27 [] (.mv (.tmp 0)))::.i (.p 28 [] (.nck (.tmp 27)))::.i (.p 29 [] (.fad (.tmp 28) 1))::.i (.p 30 [] (.bld 0 1 1 false (.tmp 29)))::[]
def r72_8 : List I := .i (.p 4 [] (.mv (.const (.slice none 0 0))))::[]
def k72_10 : SC := .seq (.reg r72_8 [4] [0,900,901]) .ret
def k72_11 : SC := .cnd (.tmp 30) k72_10 .skip
def k72_12 : SC := .seq (.reg r72_7 [5,30] [0,900,901]) k72_11
def r72_9 : List I := .i (.p 31 [] (.mv (.tmp 5)))::.i (.p 4 [] (.mv (.tmp 31)))::[]
def k72_13 : SC := .seq (.reg r72_6 [0,5] [0,900,901]) k72_12
def k72_14 : SC := .seq (.reg r72_9 [4] [0,900,901]) .ret
def k72_15 : SC := .seq (.reg r72_2 [0,1,5,6] [0,900,901]) k72_9
def k72_16 : SC := .seq k72_13 k72_14
def k72_17 : SC := .seq k72_15 k72_16
def k72_18 : SC := .seq (.reg r72_1 [0,1,5] [0,900,901]) k72_17
def s72 : SC := .seq (.reg r72_0 [0,1] [0,900,901]) k72_18
theorem ck72 : chkC Tryz.prog Tryz.f72.ntmps (chkD Tryz.prog Tryz.f72.ntmps) s72 (Tryz.f72.body.getD .skip) = true := by kernel_rfl
theorem en72 : Ent Tryz.prog 72 := ⟨_,Tryz.func72,by kernel_rfl,by kernel_rfl⟩
theorem fn72 {a0 a1 : Value} {own : List HP} {u : Mem} {Q : Value → List HP → Mem → Prop} (h : ∀ cx : Ctx,cx.u = u → W Tryz.prog (chkD Tryz.prog) Tryz.f72.ntmps cx s72 (RetQ cx [.t 4] Q) (env0 0 [a0,a1]) [] own u) : Fn Tryz.prog 72 [a0,a1] own u Q :=
  Fn_of_W (fn := Tryz.f72) (c := Tryz.f72.body.getD .skip) Tryz.func72 (by kernel_rfl) (by kernel_rfl) ck72 (by kernel_rfl) (Nat.le_of_ble_eq_true (by kernel_rfl)) h
def r73_0 : List I := .i (.p 2 [] (.mv (.const (.int .i64 0))))::[]
def r73_1 : List I := .i (.p 3 [] (.mv (.tmp 0)))::.i (.p 4 [] (.nck (.tmp 3)))::.i (.p 5 [] (.fad (.tmp 4) 0))::.i (.p 6 [] (.bld 0 0 1 false (.tmp 5)))::.i (.p 7 [] (.slen (.tmp 6)))::.i (.p 2 [] (.mv (.tmp 7)))::[]
def k73_1 : SC := .seq (.reg r73_1 [2] [0,900,901]) .ret
def s73 : SC := .seq (.reg r73_0 [0] [0,900,901]) k73_1
theorem ck73 : chkC Tryz.prog Tryz.f73.ntmps (chkD Tryz.prog Tryz.f73.ntmps) s73 (Tryz.f73.body.getD .skip) = true := by kernel_rfl
theorem en73 : Ent Tryz.prog 73 := ⟨_,Tryz.func73,by kernel_rfl,by kernel_rfl⟩
theorem fn73 {a0 : Value} {own : List HP} {u : Mem} {Q : Value → List HP → Mem → Prop} (h : ∀ cx : Ctx,cx.u = u → W Tryz.prog (chkD Tryz.prog) Tryz.f73.ntmps cx s73 (RetQ cx [.t 2] Q) (env0 0 [a0]) [] own u) : Fn Tryz.prog 73 [a0] own u Q :=
  Fn_of_W (fn := Tryz.f73) (c := Tryz.f73.body.getD .skip) Tryz.func73 (by kernel_rfl) (by kernel_rfl) ck73 (by kernel_rfl) (Nat.le_of_ble_eq_true (by kernel_rfl)) h
def r74_0 : List I := .i (.p 2 [] (.mv (.const (.string ⟨#[]⟩))))::[]
def r74_1b : List I := .i (.p 3 [] (.mv (.tmp 6)))::[]
def r74_1a : List I := .i (.a (some 6) (.call 71 [.tmp 5,.const (.int .u8 58),.const (.int .i64 0)]))::r74_1b
def r74_1 : List I := .i (.p 5 [] (.mv (.tmp 0)))::r74_1a
def r74_2 : List I := .i (.p 7 [] (.mv (.tmp 3)))::.i (.p 8 [] (.mv (.tmp 0)))::.i (.p 9 [] (.nck (.tmp 8)))::.i (.p 10 [] (.fad (.tmp 9) 0))::.i (.p 11 [] (.bld 0 0 1 false (.tmp 10)))::.i (.p 12 [] (.slen (.tmp 11)))::.i (.p 13 [] (.ib .gtr .i64 (.tmp 7) (.tmp 12)))::[]
def r74_3a : List I := .i (.a (some 15) (.call 113 [.tmp 14]))::[]
def r74_3 : List I := .i (.p 14 [] (.mv (.tmp 0)))::r74_3a
def r74_4 : List I := .i (.p 2 [] (.mv (.const (.string ⟨#[]⟩))))::[]
def k74_1 : SC := .seq (.reg r74_4 [2] [0,900,901]) .ret
def k74_2 : SC := .seq (.reg r74_3 [] [0,900,901]) k74_1
def k74_3 : SC := .cnd (.tmp 13) k74_2 .skip
def r74_5 : List I := .i (.p 16 [] (.mv (.tmp 0)))::.i (.p 17 [] (.nck (.tmp 16)))::.i (.p 18 [] (.fad (.tmp 17) 0))::.i (.p 19 [] (.bld 0 0 1 false (.tmp 18)))::.i (.p 20 [] (.mv (.tmp 3)))::.i (.p 21 [] (.ssl (.tmp 19) none (some (.tmp 20))))::.i (.p 4 [] (.mv (.tmp 21)))::[]
def r74_6a : List I := .i (.a none (.bst 0 0 1 (.tmp 30) (.tmp 28)))::[]
def r74_6 : List I := .i (.p 22 [] (.mv (.tmp 0)))::.i (.p 23 [] (.mv (.tmp 0)))::.i (.p 24 [] (.nck (.tmp 23)))::.i (.p 25 [] (.fad (.tmp 24) 0))::.i (.p 26 [] (.bld 0 0 1 false (.tmp 25)))::.i (.p 27 [] (.mv (.tmp 3)))::.i (.p 28 [] (.ssl (.tmp 26) (some (.tmp 27)) none))::.i (.p 29 [] (.nck (.tmp 22)))::.i (.p 30 [] (.fad (.tmp 29) 0))::r74_6a
def r74_7a : List I := .i (.a (some 32) (.call 115 [.tmp 31,.const (.string ⟨#[44]⟩)]))::[]
def r74_7 : List I := .i (.p 31 [] (.mv (.tmp 0)))::r74_7a
def r74_8 : List I := .i (.p 33 [] (.mv (.tmp 0)))::.i (.p 34 [] (.nck (.tmp 33)))::.i (.p 35 [] (.fad (.tmp 34) 1))::.i (.p 36 [] (.bld 0 1 1 false (.tmp 35)))::[]
def r74_9 : List I := .i (.p 2 [] (.mv (.const (.string ⟨#[]⟩))))::[]
def k74_4 : SC := .seq (.reg r74_9 [2] [0,900,901]) .ret
def k74_5 : SC := .cnd (.tmp 36) k74_4 .skip
def k74_6 : SC := .seq (.reg r74_8 [4,36] [0,900,901]) k74_5
def r74_10 : List I := .i (.p 37 [] (.mv (.tmp 4)))::.i (.p 2 [] (.mv (.tmp 37)))::[]
def k74_7 : SC := .seq (.reg r74_7 [0,4] [0,900,901]) k74_6
def k74_8 : SC := .seq (.reg r74_10 [2] [0,900,901]) .ret
def k74_9 : SC := .seq k74_7 k74_8
def k74_10 : SC := .seq (.reg r74_6 [0,4] [0,900,901]) k74_9
def k74_11 : SC := .seq (.reg r74_2 [0,3,13] [0,900,901]) k74_3
def k74_12 : SC := .seq (.reg r74_5 [0,3,4] [0,900,901]) k74_10
def k74_13 : SC := .seq k74_11 k74_12
def k74_14 : SC := .seq (.reg r74_1 [0,3] [0,900,901]) k74_13
def s74 : SC := .seq (.reg r74_0 [0] [0,900,901]) k74_14
theorem ck74 : chkC Tryz.prog Tryz.f74.ntmps (chkD Tryz.prog Tryz.f74.ntmps) s74 (Tryz.f74.body.getD .skip) = true := by kernel_rfl
theorem en74 : Ent Tryz.prog 74 := ⟨_,Tryz.func74,by kernel_rfl,by kernel_rfl⟩
theorem fn74 {a0 : Value} {own : List HP} {u : Mem} {Q : Value → List HP → Mem → Prop} (h : ∀ cx : Ctx,cx.u = u → W Tryz.prog (chkD Tryz.prog) Tryz.f74.ntmps cx s74 (RetQ cx [.t 2] Q) (env0 0 [a0]) [] own u) : Fn Tryz.prog 74 [a0] own u Q :=
  Fn_of_W (fn := Tryz.f74) (c := Tryz.f74.body.getD .skip) Tryz.func74 (by kernel_rfl) (by kernel_rfl) ck74 (by kernel_rfl) (Nat.le_of_ble_eq_true (by kernel_rfl)) h
def r75_0f : List I0 := .a none (.bst 0 5 1 (.tmp 8) (.tmp 7))::[]
def r75_0e : List I0 := .p 8 [] (.fad (.tmp 0) 5)::r75_0f
def r75_0d : List I0 := .a (some 7) (.app 58 5 56 (.tmp 3) (.tmp 6))::r75_0e
def r75_0c : List I0 := .a (some 6) (.bsp 58 5 [.tmp 5])::r75_0d
def r75_0b : List I0 := .a (some 5) (.call 76 [.tmp 4])::r75_0c
def r75_0a : List I0 := .ld 4 [] (.tmp 1) 1 true::r75_0b
def r75_0 : List I0 := .p 2 [] (.fad (.tmp 0) 5)::.p 3 [] (.bld 0 5 1 false (.tmp 2))::r75_0a
def s75 : SC := .drw [0,1,2,3,4,5,6,7] r75_0 [] [0,900,901]
theorem ck75 : chkC Tryz.prog Tryz.f75.ntmps (chkD Tryz.prog Tryz.f75.ntmps) s75 (Tryz.f75.body.getD .skip) = true := by kernel_rfl
theorem en75 : Ent Tryz.prog 75 := ⟨_,Tryz.func75,by kernel_rfl,by kernel_rfl⟩
theorem fn75 {a0 a1 : Value} {own : List HP} {u : Mem} {Q : Value → List HP → Mem → Prop} (h : ∀ cx : Ctx,cx.u = u → W Tryz.prog (chkD Tryz.prog) Tryz.f75.ntmps cx s75 (RetQ cx [] Q) (env0 0 [a0,a1]) [] own u) : Fn Tryz.prog 75 [a0,a1] own u Q :=
  Fn_of_W (fn := Tryz.f75) (c := Tryz.f75.body.getD .skip) Tryz.func75 (by kernel_rfl) (by kernel_rfl) ck75 (by kernel_rfl) (Nat.le_of_ble_eq_true (by kernel_rfl)) h
def r76_0a : List I := .i (.a (some 2) (.box 2 58 [.int .i64 0,.int .i64 0,.slice none 0 0,.int .i64 0,.int .i64 0]))::[]
def r76_0 : List I := .i (.a (some 1) (.boxv 1 91 (.tmp 0)))::r76_0a
def r76_1g : List I0 := .a none (.bst 2 0 5 (.tmp 2) (.tmp 18))::[]
def r76_1f : List I0 := .p 18 [] (.mks [.int .i64 0,.int .i64 0,.slice none 0 0,.int .i64 0,.int .i64 0] [(0,1,.tmp 5),(1,1,.tmp 8),(2,1,.tmp 11),(3,1,.tmp 14),(4,1,.tmp 17)])::r76_1g
def r76_1e : List I0 := .a (some 17) (.call 29 [.tmp 16])::r76_1f
def r76_1d : List I0 := .a (some 14) (.call 29 [.tmp 13])::r76_1e
def r76_1c : List I0 := .a (some 11) (.call 30 [.tmp 10])::r76_1d
def r76_1b : List I0 := .a (some 8) (.call 29 [.tmp 7])::r76_1c
def r76_1a : List I0 := .a (some 5) (.call 29 [.tmp 4])::r76_1b
def r76_1 : List I0 := .p 3 [] (.fad (.tmp 1) 0)::.p 4 [] (.bld 1 0 1 false (.tmp 3))::.p 6 [] (.fad (.tmp 1) 0)::.p 7 [] (.bld 1 0 1 false (.tmp 6))::.p 9 [] (.fad (.tmp 1) 0)::.p 10 [] (.bld 1 0 1 false (.tmp 9))::.p 12 [] (.fad (.tmp 1) 0)::.p 13 [] (.bld 1 0 1 false (.tmp 12))::.p 15 [] (.fad (.tmp 1) 0)::.p 16 [] (.bld 1 0 1 false (.tmp 15))::r76_1a
def k76_1 : SC := .seq (.drw [0,1,3,4,6,7,9,10,12,13,2,5,8,11,14,15,16] r76_1 [2] [2,900,901]) .ret
def s76 : SC := .seq (.reg r76_0 [1,2] [1,2,900,901]) k76_1
theorem ck76 : chkC Tryz.prog Tryz.f76.ntmps (chkD Tryz.prog Tryz.f76.ntmps) s76 (Tryz.f76.body.getD .skip) = true := by kernel_rfl
theorem en76 : Ent Tryz.prog 76 := ⟨_,Tryz.func76,by kernel_rfl,by kernel_rfl⟩
theorem fn76 {a0 : Value} {own : List HP} {u : Mem} {Q : Value → List HP → Mem → Prop} (h : ∀ cx : Ctx,cx.u = u → W Tryz.prog (chkD Tryz.prog) Tryz.f76.ntmps cx s76 (RetQ cx [.c 2 5 true] Q) (env0 0 [a0]) [] own u) : Fn Tryz.prog 76 [a0] own u Q :=
  Fn_of_W (fn := Tryz.f76) (c := Tryz.f76.body.getD .skip) Tryz.func76 (by kernel_rfl) (by kernel_rfl) ck76 (by kernel_rfl) (Nat.le_of_ble_eq_true (by kernel_rfl)) h
def r77_0s : List I0 := .a none (.bst 0 6 1 (.tmp 22) (.tmp 21))::[]
def r77_0r : List I0 := .p 22 [] (.fad (.tmp 0) 6)::r77_0s
def r77_0q : List I0 := .a (some 21) (.app 113 5 40 (.tmp 3) (.tmp 20))::r77_0r
def r77_0p : List I0 := .a (some 20) (.bsp 113 5 [.tmp 19])::r77_0q
def r77_0o : List I0 := .p 19 [] (.mks [.int .i64 0,.int .i64 0,.int .i64 0,.int .i64 0,.int .i64 0] [(0,1,.tmp 6),(1,1,.tmp 9),(2,1,.tmp 12),(3,1,.tmp 15),(4,1,.tmp 18)])::r77_0p
def r77_0n : List I0 := .a (some 18) (.call 29 [.tmp 17])::r77_0o
def r77_0m : List I0 := .a (some 15) (.call 29 [.tmp 14])::r77_0n
def r77_0l : List I0 := .a (some 12) (.call 29 [.tmp 11])::r77_0m
def r77_0k : List I0 := .a (some 9) (.call 29 [.tmp 8])::r77_0l
def r77_0j : List I0 := .a (some 6) (.call 29 [.tmp 5])::r77_0k
def r77_0i : List I0 := .ld 17 [] (.tmp 16) 1 false::r77_0j
def r77_0h : List I0 := .p 16 [] (.fad (.tmp 1) 0)::r77_0i
def r77_0g : List I0 := .ld 14 [] (.tmp 13) 1 false::r77_0h
def r77_0f : List I0 := .p 13 [] (.fad (.tmp 1) 0)::r77_0g
def r77_0e : List I0 := .ld 11 [] (.tmp 10) 1 false::r77_0f
def r77_0d : List I0 := .p 10 [] (.fad (.tmp 1) 0)::r77_0e
def r77_0c : List I0 := .ld 8 [] (.tmp 7) 1 false::r77_0d
def r77_0b : List I0 := .p 7 [] (.fad (.tmp 1) 0)::r77_0c
def r77_0a : List I0 := .ld 5 [] (.tmp 4) 1 false::r77_0b
def r77_0 : List I0 := .p 2 [] (.fad (.tmp 0) 6)::.p 3 [] (.bld 0 6 1 false (.tmp 2))::.p 4 [] (.fad (.tmp 1) 0)::r77_0a
def s77 : SC := .drw [0,1,2,3,5,6,8,9,11,12,14,15,4,7,10,13,16,17,18,19,20,21] r77_0 [] [0,900,901]
theorem ck77 : chkC Tryz.prog Tryz.f77.ntmps (chkD Tryz.prog Tryz.f77.ntmps) s77 (Tryz.f77.body.getD .skip) = true := by kernel_rfl
theorem en77 : Ent Tryz.prog 77 := ⟨_,Tryz.func77,by kernel_rfl,by kernel_rfl⟩
theorem fn77 {a0 a1 : Value} {own : List HP} {u : Mem} {Q : Value → List HP → Mem → Prop} (h : ∀ cx : Ctx,cx.u = u → W Tryz.prog (chkD Tryz.prog) Tryz.f77.ntmps cx s77 (RetQ cx [] Q) (env0 0 [a0,a1]) [] own u) : Fn Tryz.prog 77 [a0,a1] own u Q :=
  Fn_of_W (fn := Tryz.f77) (c := Tryz.f77.body.getD .skip) Tryz.func77 (by kernel_rfl) (by kernel_rfl) ck77 (by kernel_rfl) (Nat.le_of_ble_eq_true (by kernel_rfl)) h
def r78_0p : List I0 := .a none (.bst 0 7 1 (.tmp 20) (.tmp 19))::[]
def r78_0o : List I0 := .p 20 [] (.fad (.tmp 0) 7)::r78_0p
def r78_0n : List I0 := .a (some 19) (.app 115 4 32 (.tmp 3) (.tmp 18))::r78_0o
def r78_0m : List I0 := .a (some 18) (.bsp 115 4 [.tmp 17])::r78_0n
def r78_0l : List I0 := .p 16 [] (.ib .eql .i64 (.tmp 15) (.const (.int .i64 1)))::.p 17 [] (.mks [.int .i64 0,.int .i64 0,.int .i64 0,.bool false] [(0,1,.tmp 6),(1,1,.tmp 9),(2,1,.tmp 12),(3,1,.tmp 16)])::r78_0m
def r78_0k : List I0 := .a (some 15) (.call 29 [.tmp 14])::r78_0l
def r78_0j : List I0 := .a (some 12) (.call 35 [.tmp 11])::r78_0k
def r78_0i : List I0 := .a (some 9) (.call 29 [.tmp 8])::r78_0j
def r78_0h : List I0 := .a (some 6) (.call 29 [.tmp 5])::r78_0i
def r78_0g : List I0 := .ld 14 [] (.tmp 13) 1 false::r78_0h
def r78_0f : List I0 := .p 13 [] (.fad (.tmp 1) 0)::r78_0g
def r78_0e : List I0 := .ld 11 [] (.tmp 10) 1 false::r78_0f
def r78_0d : List I0 := .p 10 [] (.fad (.tmp 1) 0)::r78_0e
def r78_0c : List I0 := .ld 8 [] (.tmp 7) 1 false::r78_0d
def r78_0b : List I0 := .p 7 [] (.fad (.tmp 1) 0)::r78_0c
def r78_0a : List I0 := .ld 5 [] (.tmp 4) 1 false::r78_0b
def r78_0 : List I0 := .p 2 [] (.fad (.tmp 0) 7)::.p 3 [] (.bld 0 7 1 false (.tmp 2))::.p 4 [] (.fad (.tmp 1) 0)::r78_0a
def s78 : SC := .drw [0,1,2,3,5,6,8,9,11,12,4,7,10,13,14,15,16,17,18,19] r78_0 [] [0,900,901]
theorem ck78 : chkC Tryz.prog Tryz.f78.ntmps (chkD Tryz.prog Tryz.f78.ntmps) s78 (Tryz.f78.body.getD .skip) = true := by kernel_rfl
theorem en78 : Ent Tryz.prog 78 := ⟨_,Tryz.func78,by kernel_rfl,by kernel_rfl⟩
theorem fn78 {a0 a1 : Value} {own : List HP} {u : Mem} {Q : Value → List HP → Mem → Prop} (h : ∀ cx : Ctx,cx.u = u → W Tryz.prog (chkD Tryz.prog) Tryz.f78.ntmps cx s78 (RetQ cx [] Q) (env0 0 [a0,a1]) [] own u) : Fn Tryz.prog 78 [a0,a1] own u Q :=
  Fn_of_W (fn := Tryz.f78) (c := Tryz.f78.body.getD .skip) Tryz.func78 (by kernel_rfl) (by kernel_rfl) ck78 (by kernel_rfl) (Nat.le_of_ble_eq_true (by kernel_rfl)) h
def r79_0f : List I0 := .a none (.bst 0 8 1 (.tmp 9) (.tmp 8))::[]
def r79_0e : List I0 := .p 9 [] (.fad (.tmp 0) 8)::r79_0f
def r79_0d : List I0 := .a (some 8) (.app 3 1 8 (.tmp 3) (.tmp 7))::r79_0e
def r79_0c : List I0 := .a (some 7) (.bsp 3 1 [.tmp 6])::r79_0d
def r79_0b : List I0 := .a (some 6) (.call 35 [.tmp 5])::r79_0c
def r79_0a : List I0 := .ld 5 [] (.tmp 4) 1 false::r79_0b
def r79_0 : List I0 := .p 2 [] (.fad (.tmp 0) 8)::.p 3 [] (.bld 0 8 1 false (.tmp 2))::.p 4 [] (.fad (.tmp 1) 0)::r79_0a
def s79 : SC := .drw [0,1,2,3,4,5,6,7,8] r79_0 [] [0,900,901]
theorem ck79 : chkC Tryz.prog Tryz.f79.ntmps (chkD Tryz.prog Tryz.f79.ntmps) s79 (Tryz.f79.body.getD .skip) = true := by kernel_rfl
theorem en79 : Ent Tryz.prog 79 := ⟨_,Tryz.func79,by kernel_rfl,by kernel_rfl⟩
theorem fn79 {a0 a1 : Value} {own : List HP} {u : Mem} {Q : Value → List HP → Mem → Prop} (h : ∀ cx : Ctx,cx.u = u → W Tryz.prog (chkD Tryz.prog) Tryz.f79.ntmps cx s79 (RetQ cx [] Q) (env0 0 [a0,a1]) [] own u) : Fn Tryz.prog 79 [a0,a1] own u Q :=
  Fn_of_W (fn := Tryz.f79) (c := Tryz.f79.body.getD .skip) Tryz.func79 (by kernel_rfl) (by kernel_rfl) ck79 (by kernel_rfl) (Nat.le_of_ble_eq_true (by kernel_rfl)) h
def r80_0f : List I0 := .a none (.bst 0 11 1 (.tmp 8) (.tmp 7))::[]
def r80_0e : List I0 := .p 8 [] (.fad (.tmp 0) 11)::r80_0f
def r80_0d : List I0 := .a (some 7) (.app 63 5 56 (.tmp 3) (.tmp 6))::r80_0e
def r80_0c : List I0 := .a (some 6) (.bsp 63 5 [.tmp 5])::r80_0d
def r80_0b : List I0 := .a (some 5) (.call 81 [.tmp 4])::r80_0c
def r80_0a : List I0 := .ld 4 [] (.tmp 1) 1 true::r80_0b
def r80_0 : List I0 := .p 2 [] (.fad (.tmp 0) 11)::.p 3 [] (.bld 0 11 1 false (.tmp 2))::r80_0a
def s80 : SC := .drw [0,1,2,3,4,5,6,7] r80_0 [] [0,900,901]
theorem ck80 : chkC Tryz.prog Tryz.f80.ntmps (chkD Tryz.prog Tryz.f80.ntmps) s80 (Tryz.f80.body.getD .skip) = true := by kernel_rfl
theorem en80 : Ent Tryz.prog 80 := ⟨_,Tryz.func80,by kernel_rfl,by kernel_rfl⟩
theorem fn80 {a0 a1 : Value} {own : List HP} {u : Mem} {Q : Value → List HP → Mem → Prop} (h : ∀ cx : Ctx,cx.u = u → W Tryz.prog (chkD Tryz.prog) Tryz.f80.ntmps cx s80 (RetQ cx [] Q) (env0 0 [a0,a1]) [] own u) : Fn Tryz.prog 80 [a0,a1] own u Q :=
  Fn_of_W (fn := Tryz.f80) (c := Tryz.f80.body.getD .skip) Tryz.func80 (by kernel_rfl) (by kernel_rfl) ck80 (by kernel_rfl) (Nat.le_of_ble_eq_true (by kernel_rfl)) h
def r81_0a : List I := .i (.a (some 2) (.box 2 63 [.int .i64 0,.int .i64 0,.int .i64 0,.slice none 0 0,.int .i64 0]))::[]
def r81_0 : List I := .i (.a (some 1) (.boxv 1 91 (.tmp 0)))::r81_0a
def r81_1k : List I0 := .a none (.bst 3 0 5 (.tmp 3) (.tmp 13))::[]
def r81_1j : List I0 := .a (some 3) (.box 3 63 [.int .i64 0,.int .i64 0,.int .i64 0,.slice none 0 0,.int .i64 0])::r81_1k
def r81_1i : List I0 := .p 13 [] (.mks [.int .i64 0,.int .i64 0,.int .i64 0,.slice none 0 0,.int .i64 0] [(0,1,.tmp 6),(1,1,.tmp 9),(2,1,.tmp 12)])::r81_1j
def r81_1h : List I0 := .a (some 12) (.call 29 [.tmp 11])::r81_1i
def r81_1g : List I0 := .a (some 9) (.call 29 [.tmp 8])::r81_1h
def r81_1f : List I0 := .a (some 6) (.call 29 [.tmp 5])::r81_1g
def r81_1e : List I0 := .ld 11 [] (.tmp 10) 1 false::r81_1f
def r81_1d : List I0 := .p 10 [] (.fad (.tmp 1) 0)::r81_1e
def r81_1c : List I0 := .ld 8 [] (.tmp 7) 1 false::r81_1d
def r81_1b : List I0 := .p 7 [] (.fad (.tmp 1) 0)::r81_1c
def r81_1a : List I0 := .ld 5 [] (.tmp 4) 1 false::r81_1b
def r81_1 : List I0 := .p 4 [] (.fad (.tmp 1) 0)::r81_1a
def r81_2b : List I := .i (.a (some 16) (.call 31 [.tmp 14,.tmp 15]))::[]
def r81_2a : List I := .i (.p 15 [] (.mkf 116 [] [.tmp 3,.tmp 1]))::r81_2b
def r81_2 : List I := .i (.ld 14 [] (.tmp 1) 1 true)::r81_2a
def r81_3d : List I := .i (.a none (.bst 3 4 1 (.tmp 20) (.tmp 19)))::[]
def r81_3c : List I := .i (.p 20 [] (.fad (.tmp 3) 4))::r81_3d
def r81_3b : List I := .i (.a (some 19) (.call 29 [.tmp 18]))::r81_3c
def r81_3a : List I := .i (.ld 18 [] (.tmp 17) 1 false)::r81_3b
def r81_3 : List I := .i (.p 17 [] (.fad (.tmp 1) 0))::r81_3a
def r81_4a : List I := .i (.a none (.bst 2 0 5 (.tmp 2) (.tmp 21)))::[]
def r81_4 : List I := .i (.p 21 [] (.bld 3 0 5 true (.tmp 3)))::r81_4a
def k81_1 : SC := .seq (.reg r81_4 [2] [1,2,3,900,901]) .ret
def k81_2 : SC := .seq (.reg r81_3 [2,3] [1,2,3,900,901]) k81_1
def k81_3 : SC := .seq (.reg r81_2 [1,2,3] [1,2,3,900,901]) k81_2
def k81_4 : SC := .seq (.drw [0,1,3,4,6,7,2,5,8,9,10,11] r81_1 [1,2,3] [1,2,3,900,901]) k81_3
def s81 : SC := .seq (.reg r81_0 [1,2] [1,2,900,901]) k81_4
theorem ck81 : chkC Tryz.prog Tryz.f81.ntmps (chkD Tryz.prog Tryz.f81.ntmps) s81 (Tryz.f81.body.getD .skip) = true := by kernel_rfl
theorem en81 : Ent Tryz.prog 81 := ⟨_,Tryz.func81,by kernel_rfl,by kernel_rfl⟩
theorem fn81 {a0 : Value} {own : List HP} {u : Mem} {Q : Value → List HP → Mem → Prop} (h : ∀ cx : Ctx,cx.u = u → W Tryz.prog (chkD Tryz.prog) Tryz.f81.ntmps cx s81 (RetQ cx [.c 2 5 true] Q) (env0 0 [a0]) [] own u) : Fn Tryz.prog 81 [a0] own u Q :=
  Fn_of_W (fn := Tryz.f81) (c := Tryz.f81.body.getD .skip) Tryz.func81 (by kernel_rfl) (by kernel_rfl) ck81 (by kernel_rfl) (Nat.le_of_ble_eq_true (by kernel_rfl)) h
def r82_0f : List I0 := .a none (.bst 0 12 1 (.tmp 8) (.tmp 7))::[]
def r82_0e : List I0 := .p 8 [] (.fad (.tmp 0) 12)::r82_0f
def r82_0d : List I0 := .a (some 7) (.app 65 12 128 (.tmp 3) (.tmp 6))::r82_0e
def r82_0c : List I0 := .a (some 6) (.bsp 65 12 [.tmp 5])::r82_0d
def r82_0b : List I0 := .a (some 5) (.call 83 [.tmp 4])::r82_0c
def r82_0a : List I0 := .ld 4 [] (.tmp 1) 1 true::r82_0b
def r82_0 : List I0 := .p 2 [] (.fad (.tmp 0) 12)::.p 3 [] (.bld 0 12 1 false (.tmp 2))::r82_0a
def s82 : SC := .drw [0,1,2,3,4,5,6,7] r82_0 [] [0,900,901]
theorem ck82 : chkC Tryz.prog Tryz.f82.ntmps (chkD Tryz.prog Tryz.f82.ntmps) s82 (Tryz.f82.body.getD .skip) = true := by kernel_rfl
theorem en82 : Ent Tryz.prog 82 := ⟨_,Tryz.func82,by kernel_rfl,by kernel_rfl⟩
theorem fn82 {a0 a1 : Value} {own : List HP} {u : Mem} {Q : Value → List HP → Mem → Prop} (h : ∀ cx : Ctx,cx.u = u → W Tryz.prog (chkD Tryz.prog) Tryz.f82.ntmps cx s82 (RetQ cx [] Q) (env0 0 [a0,a1]) [] own u) : Fn Tryz.prog 82 [a0,a1] own u Q :=
  Fn_of_W (fn := Tryz.f82) (c := Tryz.f82.body.getD .skip) Tryz.func82 (by kernel_rfl) (by kernel_rfl) ck82 (by kernel_rfl) (Nat.le_of_ble_eq_true (by kernel_rfl)) h
def r83_0a : List I := .i (.a (some 2) (.box 2 65 [.int .i64 0,.int .i64 0,.int .i64 0,.int .i64 0,.int .i64 0,.int .i64 0,.int .i64 0,.slice none 0 0,.slice none 0 0,.int .i64 0,.int .i64 0,.int .i64 0]))::[]
def r83_0 : List I := .i (.a (some 1) (.boxv 1 91 (.tmp 0)))::r83_0a
def r83_1n : List I0 := .a none (.bst 2 0 12 (.tmp 2) (.tmp 39))::[]
def r83_1m : List I0 := .p 39 [] (.mks [.int .i64 0,.int .i64 0,.int .i64 0,.int .i64 0,.int .i64 0,.int .i64 0,.int .i64 0,.slice none 0 0,.slice none 0 0,.int .i64 0,.int .i64 0,.int .i64 0] [(0,1,.tmp 5),(1,1,.tmp 8),(2,1,.tmp 11),(3,1,.tmp 14),(4,1,.tmp 17),(5,1,.tmp 20),(6,1,.tmp 23),(7,1,.tmp 26),(8,1,.tmp 29),(9,1,.tmp 32),(10,1,.tmp 35),(11,1,.tmp 38)])::r83_1n
def r83_1l : List I0 := .a (some 38) (.call 29 [.tmp 37])::r83_1m
def r83_1k : List I0 := .a (some 35) (.call 29 [.tmp 34])::r83_1l
def r83_1j : List I0 := .a (some 32) (.call 29 [.tmp 31])::r83_1k
def r83_1i : List I0 := .a (some 29) (.call 30 [.tmp 28])::r83_1j
def r83_1h : List I0 := .a (some 26) (.call 30 [.tmp 25])::r83_1i
def r83_1g : List I0 := .a (some 23) (.call 29 [.tmp 22])::r83_1h
def r83_1f : List I0 := .a (some 20) (.call 29 [.tmp 19])::r83_1g
def r83_1e : List I0 := .a (some 17) (.call 29 [.tmp 16])::r83_1f
def r83_1d : List I0 := .a (some 14) (.call 29 [.tmp 13])::r83_1e
def r83_1c : List I0 := .a (some 11) (.call 29 [.tmp 10])::r83_1d
def r83_1b : List I0 := .a (some 8) (.call 29 [.tmp 7])::r83_1c
def r83_1a : List I0 := .a (some 5) (.call 29 [.tmp 4])::r83_1b
def r83_1 : List I0 := .p 3 [] (.fad (.tmp 1) 0)::.p 4 [] (.bld 1 0 1 false (.tmp 3))::.p 6 [] (.fad (.tmp 1) 0)::.p 7 [] (.bld 1 0 1 false (.tmp 6))::.p 9 [] (.fad (.tmp 1) 0)::.p 10 [] (.bld 1 0 1 false (.tmp 9))::.p 12 [] (.fad (.tmp 1) 0)::.p 13 [] (.bld 1 0 1 false (.tmp 12))::.p 15 [] (.fad (.tmp 1) 0)::.p 16 [] (.bld 1 0 1 false (.tmp 15))::.p 18 [] (.fad (.tmp 1) 0)::.p 19 [] (.bld 1 0 1 false (.tmp 18))::.p 21 [] (.fad (.tmp 1) 0)::.p 22 [] (.bld 1 0 1 false (.tmp 21))::.p 24 [] (.fad (.tmp 1) 0)::.p 25 [] (.bld 1 0 1 false (.tmp 24))::.p 27 [] (.fad (.tmp 1) 0)::.p 28 [] (.bld 1 0 1 false (.tmp 27))::.p 30 [] (.fad (.tmp 1) 0)::.p 31 [] (.bld 1 0 1 false (.tmp 30))::.p 33 [] (.fad (.tmp 1) 0)::.p 34 [] (.bld 1 0 1 false (.tmp 33))::.p 36 [] (.fad (.tmp 1) 0)::.p 37 [] (.bld 1 0 1 false (.tmp 36))::r83_1a
def k83_1 : SC := .seq (.drw [0,1,3,4,6,7,9,10,12,13,15,16,18,19,21,22,24,25,27,28,30,31,33,34,2,5,8,11,14,17,20,23,26,29,32,35,36,37] r83_1 [2] [2,900,901]) .ret
def s83 : SC := .seq (.reg r83_0 [1,2] [1,2,900,901]) k83_1
theorem ck83 : chkC Tryz.prog Tryz.f83.ntmps (chkD Tryz.prog Tryz.f83.ntmps) s83 (Tryz.f83.body.getD .skip) = true := by kernel_rfl
theorem en83 : Ent Tryz.prog 83 := ⟨_,Tryz.func83,by kernel_rfl,by kernel_rfl⟩
theorem fn83 {a0 : Value} {own : List HP} {u : Mem} {Q : Value → List HP → Mem → Prop} (h : ∀ cx : Ctx,cx.u = u → W Tryz.prog (chkD Tryz.prog) Tryz.f83.ntmps cx s83 (RetQ cx [.c 2 12 true] Q) (env0 0 [a0]) [] own u) : Fn Tryz.prog 83 [a0] own u Q :=
  Fn_of_W (fn := Tryz.f83) (c := Tryz.f83.body.getD .skip) Tryz.func83 (by kernel_rfl) (by kernel_rfl) ck83 (by kernel_rfl) (Nat.le_of_ble_eq_true (by kernel_rfl)) h
def r113_0c : List I := .i (.a none (.bst 0 1 1 (.tmp 7) (.const (.bool true))))::[]
def r113_0b : List I := .i (.p 6 [] (.nck (.tmp 3)))::.i (.p 7 [] (.fad (.tmp 6) 1))::r113_0c
def r113_0a : List I := .i (.a none (.bst 0 0 1 (.tmp 5) (.const (.string ⟨#[]⟩))))::r113_0b
def r113_0 : List I := .i (.p 2 [] (.mv (.tmp 0)))::.i (.p 3 [] (.mv (.tmp 0)))::.i (.p 4 [] (.nck (.tmp 2)))::.i (.p 5 [] (.fad (.tmp 4) 0))::r113_0a
def s113 : SC := .reg r113_0 [] [0,900,901]
theorem ck113 : chkC Tryz.prog Tryz.f113.ntmps (chkD Tryz.prog Tryz.f113.ntmps) s113 (Tryz.f113.body.getD .skip) = true := by kernel_rfl
theorem en113 : Ent Tryz.prog 113 := ⟨_,Tryz.func113,by kernel_rfl,by kernel_rfl⟩
theorem fn113 {a0 : Value} {own : List HP} {u : Mem} {Q : Value → List HP → Mem → Prop} (h : ∀ cx : Ctx,cx.u = u → W Tryz.prog (chkD Tryz.prog) Tryz.f113.ntmps cx s113 (RetQ cx [] Q) (env0 0 [a0]) [] own u) : Fn Tryz.prog 113 [a0] own u Q :=
  Fn_of_W (fn := Tryz.f113) (c := Tryz.f113.body.getD .skip) Tryz.func113 (by kernel_rfl) (by kernel_rfl) ck113 (by kernel_rfl) (Nat.le_of_ble_eq_true (by kernel_rfl)) h
def r115_0b : List I := .i (.p 6 [] (.mv (.tmp 12)))::.i (.p 13 [] (.ext (.tmp 6) 0))::.i (.p 14 [] (.ext (.tmp 6) 1))::.i (.p 4 [] (.mv (.tmp 13)))::.i (.p 5 [] (.mv (.tmp 14)))::[]
def r115_0a : List I := .i (.a (some 12) (.call 130 [.tmp 10,.tmp 11]))::r115_0b
def r115_0 : List I := .i (.p 7 [] (.mv (.tmp 0)))::.i (.p 8 [] (.nck (.tmp 7)))::.i (.p 9 [] (.fad (.tmp 8) 0))::.i (.p 10 [] (.bld 0 0 1 false (.tmp 9)))::.i (.p 11 [] (.mv (.tmp 1)))::r115_0a
def r115_1a : List I := .i (.a none (.bst 0 0 1 (.tmp 18) (.tmp 16)))::[]
def r115_1 : List I := .i (.p 15 [] (.mv (.tmp 0)))::.i (.p 16 [] (.mv (.tmp 4)))::.i (.p 17 [] (.nck (.tmp 15)))::.i (.p 18 [] (.fad (.tmp 17) 0))::r115_1a
def r115_2 : List I := .i (.p 19 [] (.mv (.tmp 5)))::.i (.p 20 [] (.not (.tmp 19)))::[]
def r115_3a : List I := .i (.a (some 22) (.call 113 [.tmp 21]))::[]
def r115_3 : List I := .i (.p 21 [] (.mv (.tmp 0)))::r115_3a
def k115_1 : SC := .reg r115_3 [] [0,900,901]
def k115_2 : SC := .cnd (.tmp 20) k115_1 .skip
def k115_3 : SC := .seq (.reg r115_2 [0,20] [0,900,901]) k115_2
def k115_4 : SC := .seq (.reg r115_1 [0,5] [0,900,901]) k115_3
def s115 : SC := .seq (.reg r115_0 [0,4,5] [0,900,901]) k115_4
theorem ck115 : chkC Tryz.prog Tryz.f115.ntmps (chkD Tryz.prog Tryz.f115.ntmps) s115 (Tryz.f115.body.getD .skip) = true := by kernel_rfl
theorem en115 : Ent Tryz.prog 115 := ⟨_,Tryz.func115,by kernel_rfl,by kernel_rfl⟩
theorem fn115 {a0 a1 : Value} {own : List HP} {u : Mem} {Q : Value → List HP → Mem → Prop} (h : ∀ cx : Ctx,cx.u = u → W Tryz.prog (chkD Tryz.prog) Tryz.f115.ntmps cx s115 (RetQ cx [] Q) (env0 0 [a0,a1]) [] own u) : Fn Tryz.prog 115 [a0,a1] own u Q :=
  Fn_of_W (fn := Tryz.f115) (c := Tryz.f115.body.getD .skip) Tryz.func115 (by kernel_rfl) (by kernel_rfl) ck115 (by kernel_rfl) (Nat.le_of_ble_eq_true (by kernel_rfl)) h
def r116_0q : List I0 := .a none (.bst 0 3 1 (.tmp 20) (.tmp 19))::[]
def r116_0p : List I0 := .p 20 [] (.fad (.tmp 0) 3)::r116_0q
def r116_0o : List I0 := .a (some 19) (.app 60 4 32 (.tmp 3) (.tmp 18))::r116_0p
def r116_0n : List I0 := .a (some 18) (.bsp 60 4 [.tmp 17])::r116_0o
def r116_0m : List I0 := .p 17 [] (.mks [.int .i64 0,.int .i64 0,.bool false,.int .i64 0] [(0,1,.tmp 6),(1,1,.tmp 9),(2,1,.tmp 13),(3,1,.tmp 16)])::r116_0n
def r116_0l : List I0 := .a (some 16) (.call 29 [.tmp 15])::r116_0m
def r116_0k : List I0 := .p 13 [] (.ib .eql .i64 (.tmp 12) (.const (.int .i64 1)))::r116_0l
def r116_0j : List I0 := .a (some 12) (.call 29 [.tmp 11])::r116_0k
def r116_0i : List I0 := .a (some 9) (.call 29 [.tmp 8])::r116_0j
def r116_0h : List I0 := .a (some 6) (.call 29 [.tmp 5])::r116_0i
def r116_0g : List I0 := .ld 15 [] (.tmp 14) 1 false::r116_0h
def r116_0f : List I0 := .p 14 [] (.fad (.tmp 1) 0)::r116_0g
def r116_0e : List I0 := .ld 11 [] (.tmp 10) 1 false::r116_0f
def r116_0d : List I0 := .p 10 [] (.fad (.tmp 1) 0)::r116_0e
def r116_0c : List I0 := .ld 8 [] (.tmp 7) 1 false::r116_0d
def r116_0b : List I0 := .p 7 [] (.fad (.tmp 1) 0)::r116_0c
def r116_0a : List I0 := .ld 5 [] (.tmp 4) 1 false::r116_0b
def r116_0 : List I0 := .p 2 [] (.fad (.tmp 0) 3)::.p 3 [] (.bld 0 3 1 false (.tmp 2))::.p 4 [] (.fad (.tmp 1) 0)::r116_0a
def s116 : SC := .drw [0,1,2,3,5,6,8,9,12,13,4,7,10,11,14,15,16,17,18,19] r116_0 [] [0,900,901]
theorem ck116 : chkC Tryz.prog Tryz.f116.ntmps (chkD Tryz.prog Tryz.f116.ntmps) s116 (Tryz.f116.body.getD .skip) = true := by kernel_rfl
theorem en116 : Ent Tryz.prog 116 := ⟨_,Tryz.func116,by kernel_rfl,by kernel_rfl⟩
theorem fn116 {a0 a1 : Value} {own : List HP} {u : Mem} {Q : Value → List HP → Mem → Prop} (h : ∀ cx : Ctx,cx.u = u → W Tryz.prog (chkD Tryz.prog) Tryz.f116.ntmps cx s116 (RetQ cx [] Q) (env0 0 [a0,a1]) [] own u) : Fn Tryz.prog 116 [a0,a1] own u Q :=
  Fn_of_W (fn := Tryz.f116) (c := Tryz.f116.body.getD .skip) Tryz.func116 (by kernel_rfl) (by kernel_rfl) ck116 (by kernel_rfl) (Nat.le_of_ble_eq_true (by kernel_rfl)) h
end Go.Proofs.YtenmmfkgopffgaaGreatDoor
