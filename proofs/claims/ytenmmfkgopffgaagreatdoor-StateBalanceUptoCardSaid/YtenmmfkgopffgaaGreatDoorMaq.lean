/- Part 17 of the proofs that the program's StateBack and StateBalance return true (texts Cd Wx joined): what its functions compute. -/
import Derived.Test.YtenmmfkgopffgaaGreatDoorFj
import Derived.Test.YtenmmfkgopffgaaGreatDoorProg
import Derived.Test.YtenmmfkgopffgaaGreatDoorMao
set_option linter.unusedVariables false
set_option linter.unusedSimpArgs false
set_option maxRecDepth 100000
namespace Go.Proofs.YtenmmfkgopffgaaGreatDoor
open Go
def r16_0a : List I := .i (.p 4 [] (.mv (.const (.int .i64 0))))::[]
def r16_0 : List I := .i (.a (some 2) (.boxv 2 27 (.tmp 0)))::r16_0a
def r16_1c : List I := .i (.p 4 [] (.mv (.tmp 9)))::[]
def r16_1b : List I := .i (.qc 9 [] (.func 58) [.tmp 8])::r16_1c
def r16_1a : List I := .i (.a (some 8) (.call 59 [.tmp 6,.tmp 7]))::r16_1b
def r16_1 : List I := .i (.p 5 [] (.fad (.tmp 2) 3))::.i (.p 6 [] (.bld 2 3 1 false (.tmp 5)))::.i (.p 7 [] (.mv (.tmp 1)))::r16_1a
def k16_1 : SC := .seq (.reg r16_1 [4] [900,901]) .ret
def s16 : SC := .seq (.reg r16_0 [1,2] [2,900,901]) k16_1
theorem ck16 : chkC Tryz.prog Tryz.f16.ntmps (chkD Tryz.prog Tryz.f16.ntmps) s16 (Tryz.f16.body.getD .skip) = true := by kernel_rfl
theorem en16 : Ent Tryz.prog 16 := ⟨_,Tryz.func16,by kernel_rfl,by kernel_rfl⟩
theorem fn16 {a0 a1 : Value} {own : List HP} {u : Mem} {Q : Value → List HP → Mem → Prop} (h : ∀ cx : Ctx,cx.u = u → W Tryz.prog (chkD Tryz.prog) Tryz.f16.ntmps cx s16 (RetQ cx [.t 4] Q) (env0 0 [a0,a1]) [] own u) : Fn Tryz.prog 16 [a0,a1] own u Q :=
  Fn_of_W (fn := Tryz.f16) (c := Tryz.f16.body.getD .skip) Tryz.func16 (by kernel_rfl) (by kernel_rfl) ck16 (by kernel_rfl) (Nat.le_of_ble_eq_true (by kernel_rfl)) h
def r17_0 : List I := .i (.p 2 [] (.mv (.const (.int .i64 0))))::[]
def r17_1c : List I := .i (.p 2 [] (.mv (.tmp 5)))::[]
def r17_1b : List I := .i (.qc 5 [] (.func 58) [.tmp 4])::r17_1c
def r17_1a : List I := .i (.a (some 4) (.call 60 [.tmp 3,.func 61]))::r17_1b
def r17_1 : List I := .i (.p 3 [] (.mv (.tmp 0)))::r17_1a
def k17_1 : SC := .seq (.reg r17_1 [2] [900,901]) .ret
def s17 : SC := .seq (.reg r17_0 [0] [900,901]) k17_1
theorem ck17 : chkC Tryz.prog Tryz.f17.ntmps (chkD Tryz.prog Tryz.f17.ntmps) s17 (Tryz.f17.body.getD .skip) = true := by kernel_rfl
theorem en17 : Ent Tryz.prog 17 := ⟨_,Tryz.func17,by kernel_rfl,by kernel_rfl⟩
theorem fn17 {a0 : Value} {own : List HP} {u : Mem} {Q : Value → List HP → Mem → Prop} (h : ∀ cx : Ctx,cx.u = u → W Tryz.prog (chkD Tryz.prog) Tryz.f17.ntmps cx s17 (RetQ cx [.t 2] Q) (env0 0 [a0]) [] own u) : Fn Tryz.prog 17 [a0] own u Q :=
  Fn_of_W (fn := Tryz.f17) (c := Tryz.f17.body.getD .skip) Tryz.func17 (by kernel_rfl) (by kernel_rfl) ck17 (by kernel_rfl) (Nat.le_of_ble_eq_true (by kernel_rfl)) h
def r58_0 : List I := .i (.p 2 [] (.mv (.const (.int .i64 0))))::[]
def r58_1 : List I := .i (.p 3 [] (.mv (.const (.int .i64 0))))::[]
def r58_2b : List I := .i (.p 8 [] (.len (.tmp 7)))::.i (.p 9 [] (.mv (.const (.int .i64 0))))::[]
def r58_2a : List I := .i (.a (some 7) (.call 108 [.tmp 6]))::r58_2b
def r58_2 : List I := .i (.p 6 [] (.mv (.tmp 0)))::r58_2a
def r58_3 : List I := .i (.p 10 [] (.ib .lss .i64 (.tmp 9) (.tmp 8)))::[]
def r58_4c : List I := .i (.a none (.bst 5 0 3 (.tmp 5) (.tmp 12)))::[]
def r58_4b : List I := .i (.a (some 5) (.box 5 38 [.int .i64 0,.int .i64 0,.int .i64 0]))::r58_4c
def r58_4a : List I := .i (.ld 12 [] (.tmp 11) 3 true)::r58_4b
def r58_4 : List I := .i (.p 11 [] (.idx (.tmp 7) (.tmp 9) 3))::r58_4a
def r58_5 : List I := .i (.p 13 [] (.mv (.tmp 3)))::.i (.p 14 [] (.fad (.tmp 5) 2))::.i (.p 15 [] (.bld 5 2 1 false (.tmp 14)))::.i (.p 16 [] (.fad (.tmp 5) 1))::.i (.p 17 [] (.bld 5 1 1 false (.tmp 16)))::.i (.p 18 [] (.ib .sub .i64 (.tmp 15) (.tmp 17)))::.i (.p 19 [] (.ib .add .i64 (.tmp 13) (.tmp 18)))::.i (.p 3 [] (.mv (.tmp 19)))::[]
def k58_1 : SC := .reg r58_5 [3,7,8,9] [900,901]
def k58_2 : SC := .seq (.reg r58_4 [3,5,7,8,9] [5,900,901]) k58_1
def r58_6 : List I := .i (.p 20 [] (.ib .add .i64 (.tmp 9) (.const (.int .i64 1))))::.i (.p 9 [] (.mv (.tmp 20)))::[]
def k58_3 : SC := .blk 1 k58_2
def k58_4 : SC := .reg r58_6 [3,7,8,9] [900,901]
def k58_5 : SC := .cnd (.tmp 10) .skip (.exit 0)
def k58_6 : SC := .seq k58_3 k58_4
def k58_7 : SC := .seq k58_5 k58_6
def k58_8 : SC := .seq (.reg r58_3 [3,7,8,9,10] [900,901]) k58_7
def k58_9 : SC := .loop k58_8
def k58_10 : SC := .blk 0 k58_9
def r58_7 : List I := .i (.p 21 [] (.mv (.tmp 3)))::.i (.p 2 [] (.mv (.tmp 21)))::[]
def k58_11 : SC := .seq (.reg r58_2 [3,7,8,9] [900,901]) k58_10
def k58_12 : SC := .seq (.reg r58_7 [2] [900,901]) .ret
def k58_13 : SC := .seq k58_11 k58_12
def k58_14 : SC := .seq (.reg r58_1 [0,3] [900,901]) k58_13
def s58 : SC := .seq (.reg r58_0 [0] [900,901]) k58_14
theorem ck58 : chkC Tryz.prog Tryz.f58.ntmps (chkD Tryz.prog Tryz.f58.ntmps) s58 (Tryz.f58.body.getD .skip) = true := by kernel_rfl
theorem en58 : Ent Tryz.prog 58 := ⟨_,Tryz.func58,by kernel_rfl,by kernel_rfl⟩
theorem fn58 {a0 : Value} {own : List HP} {u : Mem} {Q : Value → List HP → Mem → Prop} (h : ∀ cx : Ctx,cx.u = u → W Tryz.prog (chkD Tryz.prog) Tryz.f58.ntmps cx s58 (RetQ cx [.t 2] Q) (env0 0 [a0]) [] own u) : Fn Tryz.prog 58 [a0] own u Q :=
  Fn_of_W (fn := Tryz.f58) (c := Tryz.f58.body.getD .skip) Tryz.func58 (by kernel_rfl) (by kernel_rfl) ck58 (by kernel_rfl) (Nat.le_of_ble_eq_true (by kernel_rfl)) h
def r59_0a : List I := .i (.p 4 [] (.mv (.const (.slice none 0 0))))::[]
def r59_0 : List I := .i (.a (some 3) (.boxv 3 3 (.tmp 1)))::r59_0a
def r59_1b : List I := .i (.p 4 [] (.mv (.tmp 7)))::[]
def r59_1a : List I := .i (.a (some 7) (.call 60 [.tmp 5,.tmp 6]))::r59_1b
def r59_1 : List I := .i (.p 5 [] (.mv (.tmp 0)))::.i (.p 6 [] (.mkf 109 [] [.tmp 3]))::r59_1a
def k59_1 : SC := .seq (.reg r59_1 [4] [3,900,901]) .ret
def s59 : SC := .seq (.reg r59_0 [0,3] [3,900,901]) k59_1
theorem ck59 : chkC Tryz.prog Tryz.f59.ntmps (chkD Tryz.prog Tryz.f59.ntmps) s59 (Tryz.f59.body.getD .skip) = true := by kernel_rfl
theorem en59 : Ent Tryz.prog 59 := ⟨_,Tryz.func59,by kernel_rfl,by kernel_rfl⟩
theorem fn59 {a0 a1 : Value} {own : List HP} {u : Mem} {Q : Value → List HP → Mem → Prop} (h : ∀ cx : Ctx,cx.u = u → W Tryz.prog (chkD Tryz.prog) Tryz.f59.ntmps cx s59 (RetQ cx [.t 4] Q) (env0 0 [a0,a1]) [] own u) : Fn Tryz.prog 59 [a0,a1] own u Q :=
  Fn_of_W (fn := Tryz.f59) (c := Tryz.f59.body.getD .skip) Tryz.func59 (by kernel_rfl) (by kernel_rfl) ck59 (by kernel_rfl) (Nat.le_of_ble_eq_true (by kernel_rfl)) h
def r60_0 : List I := .i (.p 4 [] (.mv (.const (.slice none 0 0))))::[]
def r60_1 : List I := .i (.p 5 [] (.mv (.const (.slice none 0 0))))::[]
def r60_2 : List I := .i (.p 8 [] (.mv (.tmp 0)))::.i (.p 9 [] (.len (.tmp 8)))::.i (.p 10 [] (.mv (.const (.int .i64 0))))::[]
def r60_3 : List I := .i (.p 11 [] (.ib .lss .i64 (.tmp 10) (.tmp 9)))::[]
def r60_4c : List I := .i (.a none (.bst 7 0 7 (.tmp 7) (.tmp 13)))::[]
def r60_4b : List I := .i (.a (some 7) (.box 7 40 [.int .i64 0,.int .i64 0,.int .i64 0,.int .i64 0,.int .i64 0,.int .i64 0,.int .i64 0]))::r60_4c
def r60_4a : List I := .i (.ld 13 [] (.tmp 12) 7 true)::r60_4b
def r60_4 : List I := .i (.p 12 [] (.idx (.tmp 8) (.tmp 10) 7))::r60_4a
def r60_5a_ga : List I0 := .a (some 20) (.callv (.tmp 18) [.tmp 19])::[]
def r60_5a_g : List I0 := .p 18 [] (.mv (.tmp 1))::.p 19 [] (.bld 7 0 7 true (.tmp 7))::r60_5a_ga
def r60_5b : List I := .i (.p 21 [] (.picl (.tmp 17) (.tmp 20) (.const (.bool false))))::[]
def r60_5a : List I := .g 17 true r60_5a_g::r60_5b
def r60_5 : List I := .i (.p 14 [] (.fad (.tmp 7) 6))::.i (.p 15 [] (.bld 7 6 1 false (.tmp 14)))::.i (.p 16 [] (.ib .eql .i64 (.tmp 15) (.const (.int .i64 (-1)))))::.i (.p 17 [] (.mv (.tmp 16)))::r60_5a
def r60_6c : List I := .i (.p 5 [] (.mv (.tmp 26)))::[]
def r60_6b : List I := .i (.a (some 26) (.app 38 3 24 (.tmp 22) (.tmp 25)))::r60_6c
def r60_6a : List I := .i (.a (some 25) (.bsp 38 3 [.tmp 24]))::r60_6b
def r60_6 : List I := .i (.p 22 [] (.mv (.tmp 5)))::.i (.p 23 [] (.fad (.tmp 7) 0))::.i (.p 24 [] (.bld 7 0 3 true (.tmp 23)))::r60_6a
def k60_1 : SC := .reg r60_6 [1,5,8,9,10] [900,901]
def k60_2 : SC := .cnd (.tmp 21) k60_1 .skip
def k60_3 : SC := .seq (.reg r60_5 [1,5,7,8,9,10,21] [7,900,901]) k60_2
def k60_4 : SC := .seq (.reg r60_4 [1,5,7,8,9,10] [7,900,901]) k60_3
def r60_7 : List I := .i (.p 27 [] (.ib .add .i64 (.tmp 10) (.const (.int .i64 1))))::.i (.p 10 [] (.mv (.tmp 27)))::[]
def k60_5 : SC := .blk 1 k60_4
def k60_6 : SC := .reg r60_7 [1,5,8,9,10] [900,901]
def k60_7 : SC := .cnd (.tmp 11) .skip (.exit 0)
def k60_8 : SC := .seq k60_5 k60_6
def k60_9 : SC := .seq k60_7 k60_8
def k60_10 : SC := .seq (.reg r60_3 [1,5,8,9,10,11] [900,901]) k60_9
def k60_11 : SC := .loop k60_10
def k60_12 : SC := .blk 0 k60_11
def r60_8b : List I := .i (.p 4 [] (.mv (.tmp 29)))::[]
def r60_8a : List I := .i (.a (some 29) (.call 108 [.tmp 28]))::r60_8b
def r60_8 : List I := .i (.p 28 [] (.mv (.tmp 5)))::r60_8a
def k60_13 : SC := .seq (.reg r60_2 [1,5,8,9,10] [900,901]) k60_12
def k60_14 : SC := .seq (.reg r60_8 [4] [900,901]) .ret
def k60_15 : SC := .seq k60_13 k60_14
def k60_16 : SC := .seq (.reg r60_1 [0,1,5] [900,901]) k60_15
def s60 : SC := .seq (.reg r60_0 [0,1] [900,901]) k60_16
theorem ck60 : chkC Tryz.prog Tryz.f60.ntmps (chkD Tryz.prog Tryz.f60.ntmps) s60 (Tryz.f60.body.getD .skip) = true := by kernel_rfl
theorem en60 : Ent Tryz.prog 60 := ⟨_,Tryz.func60,by kernel_rfl,by kernel_rfl⟩
theorem fn60 {a0 a1 : Value} {own : List HP} {u : Mem} {Q : Value → List HP → Mem → Prop} (h : ∀ cx : Ctx,cx.u = u → W Tryz.prog (chkD Tryz.prog) Tryz.f60.ntmps cx s60 (RetQ cx [.t 4] Q) (env0 0 [a0,a1]) [] own u) : Fn Tryz.prog 60 [a0,a1] own u Q :=
  Fn_of_W (fn := Tryz.f60) (c := Tryz.f60.body.getD .skip) Tryz.func60 (by kernel_rfl) (by kernel_rfl) ck60 (by kernel_rfl) (Nat.le_of_ble_eq_true (by kernel_rfl)) h
def r61_0a : List I := .i (.p 2 [] (.mv (.const (.bool false))))::[]
def r61_0 : List I := .i (.a (some 1) (.boxv 1 40 (.tmp 0)))::r61_0a
def r61_1 : List I := .i (.p 2 [] (.mv (.const (.bool true))))::[]
def k61_1 : SC := .seq (.reg r61_1 [2] [900,901]) .ret
def s61 : SC := .seq (.reg r61_0 [] [900,901]) k61_1
theorem ck61 : chkC Tryz.prog Tryz.f61.ntmps (chkD Tryz.prog Tryz.f61.ntmps) s61 (Tryz.f61.body.getD .skip) = true := by kernel_rfl
theorem en61 : Ent Tryz.prog 61 := ⟨_,Tryz.func61,by kernel_rfl,by kernel_rfl⟩
theorem fn61 {a0 : Value} {own : List HP} {u : Mem} {Q : Value → List HP → Mem → Prop} (h : ∀ cx : Ctx,cx.u = u → W Tryz.prog (chkD Tryz.prog) Tryz.f61.ntmps cx s61 (RetQ cx [.t 2] Q) (env0 0 [a0]) [] own u) : Fn Tryz.prog 61 [a0] own u Q :=
  Fn_of_W (fn := Tryz.f61) (c := Tryz.f61.body.getD .skip) Tryz.func61 (by kernel_rfl) (by kernel_rfl) ck61 (by kernel_rfl) (Nat.le_of_ble_eq_true (by kernel_rfl)) h
def r108_0 : List I := .i (.p 2 [] (.mv (.const (.slice none 0 0))))::[]
def r108_1c : List I := .i (.p 3 [] (.mv (.tmp 10)))::[]
def r108_1b : List I := .i (.a (some 10) (.call 118 [.tmp 9,.func 120]))::r108_1c
def r108_1a : List I := .i (.a (some 9) (.call 119 [.tmp 8]))::r108_1b
def r108_1 : List I := .i (.p 8 [] (.mv (.tmp 0)))::r108_1a
def r108_2a : List I := .i (.a (some 12) (.call 122 [.tmp 11,.func 123]))::[]
def r108_2 : List I := .i (.p 11 [] (.mv (.tmp 3)))::r108_2a
def r108_3 : List I := .i (.p 4 [] (.mv (.const (.slice none 0 0))))::[]
def r108_4 : List I := .i (.p 13 [] (.mv (.tmp 3)))::.i (.p 14 [] (.len (.tmp 13)))::.i (.p 15 [] (.mv (.const (.int .i64 0))))::[]
def r108_5 : List I := .i (.p 16 [] (.ib .lss .i64 (.tmp 15) (.tmp 14)))::[]
def r108_6c : List I := .i (.a none (.bst 6 0 3 (.tmp 6) (.tmp 18)))::[]
def r108_6b : List I := .i (.a (some 6) (.box 6 38 [.int .i64 0,.int .i64 0,.int .i64 0]))::r108_6c
def r108_6a : List I := .i (.ld 18 [] (.tmp 17) 3 true)::r108_6b
def r108_6 : List I := .i (.p 17 [] (.idx (.tmp 13) (.tmp 15) 3))::r108_6a
def r108_7 : List I := .i (.p 19 [] (.mv (.tmp 4)))::.i (.p 20 [] (.len (.tmp 19)))::.i (.p 21 [] (.ib .sub .i64 (.tmp 20) (.const (.int .i64 1))))::.i (.p 7 [] (.mv (.tmp 21)))::[]
def r108_8d : List I0 := .p 40 [(34,true)] (.fad (.tmp 6) 1)::.p 41 [(34,true)] (.bld 6 1 1 false (.tmp 40))::.p 42 [(34,true)] (.ib .geq .i64 (.tmp 39) (.tmp 41))::.p 43 [] (.pick (.tmp 34) (.tmp 42) (.const (.bool false)))::[]
def r108_8c : List I0 := .ld 39 [(34,true)] (.tmp 38) 1 false::r108_8d
def r108_8b : List I0 := .p 30 [(24,true)] (.fad (.tmp 6) 0)::.p 31 [(24,true)] (.bld 6 0 1 false (.tmp 30))::.p 32 [(24,true)] (.ib .eql .i64 (.tmp 29) (.tmp 31))::.p 33 [] (.pick (.tmp 24) (.tmp 32) (.const (.bool false)))::.p 34 [] (.mv (.tmp 33))::.p 35 [(34,true)] (.mv (.tmp 4))::.p 36 [(34,true)] (.mv (.tmp 7))::.p 37 [(34,true)] (.idx (.tmp 35) (.tmp 36) 3)::.p 38 [(34,true)] (.fad (.tmp 37) 2)::r108_8c
def r108_8a : List I0 := .ld 29 [(24,true)] (.tmp 28) 1 false::r108_8b
def r108_8 : List I0 := .p 22 [] (.mv (.tmp 7))::.p 23 [] (.ib .geq .i64 (.tmp 22) (.const (.int .i64 0)))::.p 24 [] (.mv (.tmp 23))::.p 25 [(24,true)] (.mv (.tmp 4))::.p 26 [(24,true)] (.mv (.tmp 7))::.p 27 [(24,true)] (.idx (.tmp 25) (.tmp 26) 3)::.p 28 [(24,true)] (.fad (.tmp 27) 0)::r108_8a
def r108_9c : List I0 := .a none (.ost 1 (.tmp 55) (.tmp 53))::[]
def r108_9b : List I0 := .p 51 [] (.fad (.tmp 6) 2)::.p 52 [] (.bld 6 2 1 false (.tmp 51))::.p 53 [] (.mnx true .i64 (.tmp 50) (.tmp 52))::.p 54 [] (.idx (.tmp 44) (.tmp 45) 3)::.p 55 [] (.fad (.tmp 54) 2)::r108_9c
def r108_9a : List I0 := .ld 50 [] (.tmp 49) 1 false::r108_9b
def r108_9 : List I0 := .p 44 [] (.mv (.tmp 4))::.p 45 [] (.mv (.tmp 7))::.p 46 [] (.mv (.tmp 4))::.p 47 [] (.mv (.tmp 7))::.p 48 [] (.idx (.tmp 46) (.tmp 47) 3)::.p 49 [] (.fad (.tmp 48) 2)::r108_9a
def k108_1 : SC := .seq (.drw [0,1,2,3,4,5,6,7,8,9,10,11,12] r108_9 [4,13,14,15] [900,901]) (.exit 1)
def k108_2 : SC := .cnd (.tmp 43) k108_1 .skip
def k108_3 : SC := .seq (.drw [0,1,2,3,4,5,6,7,8,9,10,11,12,13,14,15,16,17,18,19,20,21] r108_8 [4,6,7,13,14,15,43] [6,900,901]) k108_2
def r108_10c : List I := .i (.p 4 [] (.mv (.tmp 59)))::[]
def r108_10b : List I := .i (.a (some 59) (.app 38 3 24 (.tmp 56) (.tmp 58)))::r108_10c
def r108_10a : List I := .i (.a (some 58) (.bsp 38 3 [.tmp 57]))::r108_10b
def r108_10 : List I := .i (.p 56 [] (.mv (.tmp 4)))::.i (.p 57 [] (.bld 6 0 3 true (.tmp 6)))::r108_10a
def k108_4 : SC := .seq (.reg r108_7 [4,6,7,13,14,15] [6,900,901]) k108_3
def k108_5 : SC := .reg r108_10 [4,13,14,15] [900,901]
def k108_6 : SC := .seq k108_4 k108_5
def k108_7 : SC := .seq (.reg r108_6 [4,6,13,14,15] [6,900,901]) k108_6
def r108_11 : List I := .i (.p 60 [] (.ib .add .i64 (.tmp 15) (.const (.int .i64 1))))::.i (.p 15 [] (.mv (.tmp 60)))::[]
def k108_8 : SC := .blk 1 k108_7
def k108_9 : SC := .reg r108_11 [4,13,14,15] [900,901]
def k108_10 : SC := .cnd (.tmp 16) .skip (.exit 0)
def k108_11 : SC := .seq k108_8 k108_9
def k108_12 : SC := .seq k108_10 k108_11
def k108_13 : SC := .seq (.reg r108_5 [4,13,14,15,16] [900,901]) k108_12
def k108_14 : SC := .loop k108_13
def k108_15 : SC := .blk 0 k108_14
def r108_12 : List I := .i (.p 61 [] (.mv (.tmp 4)))::.i (.p 2 [] (.mv (.tmp 61)))::[]
def k108_16 : SC := .seq (.reg r108_4 [4,13,14,15] [900,901]) k108_15
def k108_17 : SC := .seq (.reg r108_12 [2] [900,901]) .ret
def k108_18 : SC := .seq k108_16 k108_17
def k108_19 : SC := .seq (.reg r108_3 [3,4] [900,901]) k108_18
def k108_20 : SC := .seq (.reg r108_2 [3] [900,901]) k108_19
def k108_21 : SC := .seq (.reg r108_1 [3] [900,901]) k108_20
def s108 : SC := .seq (.reg r108_0 [0] [900,901]) k108_21
theorem ck108 : chkC Tryz.prog Tryz.f108.ntmps (chkD Tryz.prog Tryz.f108.ntmps) s108 (Tryz.f108.body.getD .skip) = true := by kernel_rfl
theorem en108 : Ent Tryz.prog 108 := ⟨_,Tryz.func108,by kernel_rfl,by kernel_rfl⟩
theorem fn108 {a0 : Value} {own : List HP} {u : Mem} {Q : Value → List HP → Mem → Prop} (h : ∀ cx : Ctx,cx.u = u → W Tryz.prog (chkD Tryz.prog) Tryz.f108.ntmps cx s108 (RetQ cx [.t 2] Q) (env0 0 [a0]) [] own u) : Fn Tryz.prog 108 [a0] own u Q :=
  Fn_of_W (fn := Tryz.f108) (c := Tryz.f108.body.getD .skip) Tryz.func108 (by kernel_rfl) (by kernel_rfl) ck108 (by kernel_rfl) (Nat.le_of_ble_eq_true (by kernel_rfl)) h
def r109_0a : List I := .i (.p 3 [] (.mv (.const (.bool false))))::[]
def r109_0 : List I := .i (.a (some 2) (.boxv 2 40 (.tmp 0)))::r109_0a
def r109_1b : List I := .i (.p 7 [] (.ib .eql .i64 (.tmp 5) (.tmp 6)))::.i (.p 3 [] (.mv (.tmp 7)))::[]
def r109_1a : List I := .i (.ld 6 [] (.tmp 1) 1 false)::r109_1b
def r109_1 : List I := .i (.p 4 [] (.fad (.tmp 2) 3))::.i (.p 5 [] (.bld 2 3 1 false (.tmp 4)))::r109_1a
def k109_1 : SC := .seq (.reg r109_1 [3] [900,901]) .ret
def s109 : SC := .seq (.reg r109_0 [1,2] [2,900,901]) k109_1
theorem ck109 : chkC Tryz.prog Tryz.f109.ntmps (chkD Tryz.prog Tryz.f109.ntmps) s109 (Tryz.f109.body.getD .skip) = true := by kernel_rfl
theorem en109 : Ent Tryz.prog 109 := ⟨_,Tryz.func109,by kernel_rfl,by kernel_rfl⟩
theorem fn109 {a0 a1 : Value} {own : List HP} {u : Mem} {Q : Value → List HP → Mem → Prop} (h : ∀ cx : Ctx,cx.u = u → W Tryz.prog (chkD Tryz.prog) Tryz.f109.ntmps cx s109 (RetQ cx [.t 3] Q) (env0 0 [a0,a1]) [] own u) : Fn Tryz.prog 109 [a0,a1] own u Q :=
  Fn_of_W (fn := Tryz.f109) (c := Tryz.f109.body.getD .skip) Tryz.func109 (by kernel_rfl) (by kernel_rfl) ck109 (by kernel_rfl) (Nat.le_of_ble_eq_true (by kernel_rfl)) h
def r118_0 : List I := .i (.p 4 [] (.mv (.const (.slice none 0 0))))::[]
def r118_1b : List I := .i (.p 5 [] (.mv (.tmp 10)))::[]
def r118_1a : List I := .i (.a (some 10) (.call 131 [.tmp 8,.tmp 9]))::r118_1b
def r118_1 : List I := .i (.p 8 [] (.mv (.tmp 0)))::.i (.p 9 [] (.mv (.tmp 1)))::r118_1a
def r118_2 : List I := .i (.p 11 [] (.mv (.tmp 5)))::.i (.p 12 [] (.ib .eql .i64 (.tmp 11) (.const (.int .i64 (-1)))))::[]
def r118_3 : List I := .i (.p 13 [] (.mv (.tmp 0)))::.i (.p 4 [] (.mv (.tmp 13)))::[]
def k118_1 : SC := .seq (.reg r118_3 [4] [900,901]) .ret
def k118_2 : SC := .cnd (.tmp 12) k118_1 .skip
def r118_4 : List I := .i (.p 14 [] (.mv (.tmp 5)))::.i (.p 15 [] (.ib .add .i64 (.tmp 14) (.const (.int .i64 1))))::.i (.p 6 [] (.mv (.tmp 15)))::[]
def r118_5 : List I := .i (.p 16 [] (.mv (.tmp 6)))::.i (.p 17 [] (.mv (.tmp 0)))::.i (.p 18 [] (.len (.tmp 17)))::.i (.p 19 [] (.ib .lss .i64 (.tmp 16) (.tmp 18)))::[]
def k118_3 : SC := .cnd (.tmp 19) .skip (.exit 0)
def r118_7c : List I := .i (.a none (.bst 7 0 3 (.tmp 7) (.tmp 25)))::[]
def r118_7b : List I := .i (.a (some 7) (.box 7 38 [.int .i64 0,.int .i64 0,.int .i64 0]))::r118_7c
def r118_7a : List I := .i (.ld 25 [] (.tmp 24) 3 true)::r118_7b
def r118_7 : List I := .i (.p 22 [] (.mv (.tmp 0)))::.i (.p 23 [] (.mv (.tmp 6)))::.i (.p 24 [] (.idx (.tmp 22) (.tmp 23) 3))::r118_7a
def r118_8b : List I := .i (.p 29 [] (.not (.tmp 28)))::[]
def r118_8a : List I := .i (.a (some 28) (.callv (.tmp 26) [.tmp 27]))::r118_8b
def r118_8 : List I := .i (.p 26 [] (.mv (.tmp 1)))::.i (.p 27 [] (.bld 7 0 3 true (.tmp 7)))::r118_8a
def r118_9a : List I := .i (.a none (.ost 3 (.tmp 33) (.tmp 32)))::[]
def r118_9 : List I := .i (.p 30 [] (.mv (.tmp 0)))::.i (.p 31 [] (.mv (.tmp 5)))::.i (.p 32 [] (.bld 7 0 3 true (.tmp 7)))::.i (.p 33 [] (.idx (.tmp 30) (.tmp 31) 3))::r118_9a
def r118_10 : List I := .i (.p 34 [] (.mv (.tmp 5)))::.i (.p 35 [] (.ib .add .i64 (.tmp 34) (.const (.int .i64 1))))::.i (.p 5 [] (.mv (.tmp 35)))::[]
def k118_4 : SC := .reg r118_10 [0,1,5,6] [900,901]
def k118_5 : SC := .seq (.reg r118_9 [0,1,5,6] [900,901]) k118_4
def k118_6 : SC := .cnd (.tmp 29) k118_5 .skip
def k118_7 : SC := .seq (.reg r118_8 [0,1,5,6,7,29] [7,900,901]) k118_6
def k118_8 : SC := .seq (.reg r118_7 [0,1,5,6,7] [7,900,901]) k118_7
def r118_6 : List I := .i (.p 20 [] (.mv (.tmp 6)))::.i (.p 21 [] (.ib .add .i64 (.tmp 20) (.const (.int .i64 1))))::.i (.p 6 [] (.mv (.tmp 21)))::[]
def k118_9 : SC := .blk 1 k118_8
def k118_10 : SC := .reg r118_6 [0,1,5,6] [900,901]
def k118_11 : SC := .seq (.reg r118_5 [0,1,5,6,19] [900,901]) k118_3
def k118_12 : SC := .seq k118_9 k118_10
def k118_13 : SC := .seq k118_11 k118_12
def k118_14 : SC := .loop k118_13
def k118_15 : SC := .blk 0 k118_14
def r118_12 : List I := .i (.p 39 [] (.mv (.tmp 0)))::.i (.p 40 [] (.mv (.tmp 5)))::.i (.p 41 [] (.slc (.tmp 39) none (some (.tmp 40)) 3))::.i (.p 4 [] (.mv (.tmp 41)))::[]
def k118_16 : SC := .seq (.reg r118_12 [4] [900,901]) .ret
def k118_17 : SC := .seq (.reg r118_4 [0,1,5,6] [900,901]) k118_15
def k118_18 : SC := .seq .bad k118_16
def k118_19 : SC := .seq (.reg r118_2 [0,1,5,12] [900,901]) k118_2
def k118_20 : SC := .seq k118_17 k118_18
def k118_21 : SC := .seq k118_19 k118_20
def k118_22 : SC := .seq (.reg r118_1 [0,1,5] [900,901]) k118_21
def s118 : SC := .seq (.reg r118_0 [0,1] [900,901]) k118_22
theorem ck118 : chkC Tryz.prog Tryz.f118.ntmps (chkD Tryz.prog Tryz.f118.ntmps) s118 (Tryz.f118.body.getD .skip) = true := by kernel_rfl
theorem en118 : Ent Tryz.prog 118 := ⟨_,Tryz.func118,by kernel_rfl,by kernel_rfl⟩
theorem fn118 {a0 a1 : Value} {own : List HP} {u : Mem} {Q : Value → List HP → Mem → Prop} (h : ∀ cx : Ctx,cx.u = u → W Tryz.prog (chkD Tryz.prog) Tryz.f118.ntmps cx s118 (RetQ cx [.t 4] Q) (env0 0 [a0,a1]) [] own u) : Fn Tryz.prog 118 [a0,a1] own u Q :=
  Fn_of_W (fn := Tryz.f118) (c := Tryz.f118.body.getD .skip) Tryz.func118 (by kernel_rfl) (by kernel_rfl) ck118 (by kernel_rfl) (Nat.le_of_ble_eq_true (by kernel_rfl)) h
def r119_0 : List I := .i (.p 2 [] (.mv (.const (.slice none 0 0))))::[]
def r119_1 : List I := .i (.p 3 [] (.mv (.tmp 0)))::.i (.p 4 [] (.snil false (.tmp 3)))::[]
def r119_2 : List I := .i (.p 2 [] (.mv (.const (.slice none 0 0))))::[]
def k119_1 : SC := .seq (.reg r119_2 [2] [900,901]) .ret
def k119_2 : SC := .cnd (.tmp 4) k119_1 .skip
def r119_3c : List I := .i (.p 2 [] (.mv (.tmp 7)))::[]
def r119_3b : List I := .i (.a (some 7) (.app 38 3 24 (.tmp 5) (.tmp 6)))::r119_3c
def r119_3a : List I := .i (.p 6 [] (.mv (.tmp 0)))::r119_3b
def r119_3 : List I := .i (.a (some 5) (.bsp 38 3 []))::r119_3a
def k119_3 : SC := .seq (.reg r119_1 [0,4] [900,901]) k119_2
def k119_4 : SC := .seq (.reg r119_3 [2] [900,901]) .ret
def k119_5 : SC := .seq k119_3 k119_4
def s119 : SC := .seq (.reg r119_0 [0] [900,901]) k119_5
theorem ck119 : chkC Tryz.prog Tryz.f119.ntmps (chkD Tryz.prog Tryz.f119.ntmps) s119 (Tryz.f119.body.getD .skip) = true := by kernel_rfl
theorem en119 : Ent Tryz.prog 119 := ⟨_,Tryz.func119,by kernel_rfl,by kernel_rfl⟩
theorem fn119 {a0 : Value} {own : List HP} {u : Mem} {Q : Value → List HP → Mem → Prop} (h : ∀ cx : Ctx,cx.u = u → W Tryz.prog (chkD Tryz.prog) Tryz.f119.ntmps cx s119 (RetQ cx [.t 2] Q) (env0 0 [a0]) [] own u) : Fn Tryz.prog 119 [a0] own u Q :=
  Fn_of_W (fn := Tryz.f119) (c := Tryz.f119.body.getD .skip) Tryz.func119 (by kernel_rfl) (by kernel_rfl) ck119 (by kernel_rfl) (Nat.le_of_ble_eq_true (by kernel_rfl)) h
def r120_0a : List I := .i (.p 2 [] (.mv (.const (.bool false))))::[]
def r120_0 : List I := .i (.a (some 1) (.boxv 1 38 (.tmp 0)))::r120_0a
def r120_1b : List I := .i (.p 5 [] (.not (.tmp 4)))::.i (.p 2 [] (.mv (.tmp 5)))::[]
def r120_1a : List I := .i (.qc 4 [] (.func 121) [.tmp 3])::r120_1b
def r120_1 : List I := .i (.p 3 [] (.bld 1 0 3 true (.tmp 1)))::r120_1a
def k120_1 : SC := .seq (.reg r120_1 [2] [900,901]) .ret
def s120 : SC := .seq (.reg r120_0 [1] [1,900,901]) k120_1
theorem ck120 : chkC Tryz.prog Tryz.f120.ntmps (chkD Tryz.prog Tryz.f120.ntmps) s120 (Tryz.f120.body.getD .skip) = true := by kernel_rfl
theorem en120 : Ent Tryz.prog 120 := ⟨_,Tryz.func120,by kernel_rfl,by kernel_rfl⟩
theorem fn120 {a0 : Value} {own : List HP} {u : Mem} {Q : Value → List HP → Mem → Prop} (h : ∀ cx : Ctx,cx.u = u → W Tryz.prog (chkD Tryz.prog) Tryz.f120.ntmps cx s120 (RetQ cx [.t 2] Q) (env0 0 [a0]) [] own u) : Fn Tryz.prog 120 [a0] own u Q :=
  Fn_of_W (fn := Tryz.f120) (c := Tryz.f120.body.getD .skip) Tryz.func120 (by kernel_rfl) (by kernel_rfl) ck120 (by kernel_rfl) (Nat.le_of_ble_eq_true (by kernel_rfl)) h
def r121_0a : List I := .i (.p 2 [] (.mv (.const (.bool false))))::[]
def r121_0 : List I := .i (.a (some 1) (.boxv 1 38 (.tmp 0)))::r121_0a
def r121_1b : List I := .i (.p 6 [] (.mv (.tmp 5)))::.i (.p 7 [(6,true)] (.fad (.tmp 1) 1))::.i (.p 8 [(6,true)] (.bld 1 1 1 false (.tmp 7)))::.i (.p 9 [(6,true)] (.ib .geq .i64 (.tmp 8) (.const (.int .i64 0))))::.i (.p 10 [] (.pick (.tmp 6) (.tmp 9) (.const (.bool false))))::.i (.p 11 [] (.mv (.tmp 10)))::.i (.p 12 [(11,true)] (.fad (.tmp 1) 1))::.i (.p 13 [(11,true)] (.bld 1 1 1 false (.tmp 12)))::.i (.p 14 [(11,true)] (.fad (.tmp 1) 2))::.i (.p 15 [(11,true)] (.bld 1 2 1 false (.tmp 14)))::.i (.p 16 [(11,true)] (.ib .lss .i64 (.tmp 13) (.tmp 15)))::.i (.p 17 [] (.pick (.tmp 11) (.tmp 16) (.const (.bool false))))::.i (.p 18 [] (.mv (.tmp 17)))::.i (.p 19 [(18,true)] (.fad (.tmp 1) 2))::.i (.p 20 [(18,true)] (.bld 1 2 1 false (.tmp 19)))::.i (.p 21 [(18,true)] (.ib .leq .i64 (.tmp 20) (.const (.int .i64 1048576))))::.i (.p 22 [] (.pick (.tmp 18) (.tmp 21) (.const (.bool false))))::.i (.p 2 [] (.mv (.tmp 22)))::[]
def r121_1a : List I := .i (.qc 5 [] (.func 132) [.tmp 4])::r121_1b
def r121_1 : List I := .i (.p 3 [] (.fad (.tmp 1) 0))::.i (.p 4 [] (.bld 1 0 1 false (.tmp 3)))::r121_1a
def k121_1 : SC := .seq (.reg r121_1 [2] [900,901]) .ret
def s121 : SC := .seq (.reg r121_0 [1] [1,900,901]) k121_1
theorem ck121 : chkC Tryz.prog Tryz.f121.ntmps (chkD Tryz.prog Tryz.f121.ntmps) s121 (Tryz.f121.body.getD .skip) = true := by kernel_rfl
theorem en121 : Ent Tryz.prog 121 := ⟨_,Tryz.func121,by kernel_rfl,by kernel_rfl⟩
theorem fn121 {a0 : Value} {own : List HP} {u : Mem} {Q : Value → List HP → Mem → Prop} (h : ∀ cx : Ctx,cx.u = u → W Tryz.prog (chkD Tryz.prog) Tryz.f121.ntmps cx s121 (RetQ cx [.t 2] Q) (env0 0 [a0]) [] own u) : Fn Tryz.prog 121 [a0] own u Q :=
  Fn_of_W (fn := Tryz.f121) (c := Tryz.f121.body.getD .skip) Tryz.func121 (by kernel_rfl) (by kernel_rfl) ck121 (by kernel_rfl) (Nat.le_of_ble_eq_true (by kernel_rfl)) h
def r131_0 : List I := .i (.p 4 [] (.mv (.const (.int .i64 0))))::[]
def r131_1 : List I := .i (.p 6 [] (.mv (.tmp 0)))::.i (.p 7 [] (.len (.tmp 6)))::.i (.p 8 [] (.mv (.const (.int .i64 0))))::[]
def r131_2 : List I := .i (.p 9 [] (.ib .lss .i64 (.tmp 8) (.tmp 7)))::[]
def r131_3 : List I := .i (.p 10 [] (.mv (.tmp 8)))::.i (.p 5 [] (.mv (.tmp 10)))::[]
def r131_4b : List I := .i (.a (some 16) (.callv (.tmp 11) [.tmp 15]))::[]
def r131_4a : List I := .i (.ld 15 [] (.tmp 14) 3 true)::r131_4b
def r131_4 : List I := .i (.p 11 [] (.mv (.tmp 1)))::.i (.p 12 [] (.mv (.tmp 0)))::.i (.p 13 [] (.mv (.tmp 5)))::.i (.p 14 [] (.idx (.tmp 12) (.tmp 13) 3))::r131_4a
def r131_5 : List I := .i (.p 17 [] (.mv (.tmp 5)))::.i (.p 4 [] (.mv (.tmp 17)))::[]
def k131_1 : SC := .seq (.reg r131_5 [4] [900,901]) .ret
def k131_2 : SC := .cnd (.tmp 16) k131_1 .skip
def k131_3 : SC := .seq (.reg r131_4 [0,1,5,7,8,16] [900,901]) k131_2
def k131_4 : SC := .seq (.reg r131_3 [0,1,5,7,8] [900,901]) k131_3
def r131_6 : List I := .i (.p 18 [] (.ib .add .i64 (.tmp 8) (.const (.int .i64 1))))::.i (.p 8 [] (.mv (.tmp 18)))::[]
def k131_5 : SC := .blk 1 k131_4
def k131_6 : SC := .reg r131_6 [0,1,7,8] [900,901]
def k131_7 : SC := .cnd (.tmp 9) .skip (.exit 0)
def k131_8 : SC := .seq k131_5 k131_6
def k131_9 : SC := .seq k131_7 k131_8
def k131_10 : SC := .seq (.reg r131_2 [0,1,7,8,9] [900,901]) k131_9
def k131_11 : SC := .loop k131_10
def k131_12 : SC := .blk 0 k131_11
def r131_7 : List I := .i (.p 4 [] (.mv (.const (.int .i64 (-1)))))::[]
def k131_13 : SC := .seq (.reg r131_1 [0,1,7,8] [900,901]) k131_12
def k131_14 : SC := .seq (.reg r131_7 [4] [900,901]) .ret
def k131_15 : SC := .seq k131_13 k131_14
def s131 : SC := .seq (.reg r131_0 [0,1] [900,901]) k131_15
theorem ck131 : chkC Tryz.prog Tryz.f131.ntmps (chkD Tryz.prog Tryz.f131.ntmps) s131 (Tryz.f131.body.getD .skip) = true := by kernel_rfl
theorem en131 : Ent Tryz.prog 131 := ⟨_,Tryz.func131,by kernel_rfl,by kernel_rfl⟩
theorem fn131 {a0 a1 : Value} {own : List HP} {u : Mem} {Q : Value → List HP → Mem → Prop} (h : ∀ cx : Ctx,cx.u = u → W Tryz.prog (chkD Tryz.prog) Tryz.f131.ntmps cx s131 (RetQ cx [.t 4] Q) (env0 0 [a0,a1]) [] own u) : Fn Tryz.prog 131 [a0,a1] own u Q :=
  Fn_of_W (fn := Tryz.f131) (c := Tryz.f131.body.getD .skip) Tryz.func131 (by kernel_rfl) (by kernel_rfl) ck131 (by kernel_rfl) (Nat.le_of_ble_eq_true (by kernel_rfl)) h
def r132_0 : List I := .i (.p 2 [] (.mv (.const (.bool false))))::[]
def r132_1 : List I := .i (.p 3 [] (.mv (.tmp 0)))::.i (.p 4 [] (.ib .geq .i64 (.tmp 3) (.const (.int .i64 0))))::.i (.p 5 [] (.mv (.tmp 4)))::.i (.p 6 [(5,true)] (.mv (.tmp 0)))::.i (.p 7 [(5,true)] (.ib .leq .i64 (.tmp 6) (.const (.int .i64 1073741824))))::.i (.p 8 [] (.pick (.tmp 5) (.tmp 7) (.const (.bool false))))::.i (.p 2 [] (.mv (.tmp 8)))::[]
def k132_1 : SC := .seq (.reg r132_1 [2] [900,901]) .ret
def s132 : SC := .seq (.reg r132_0 [0] [900,901]) k132_1
theorem ck132 : chkC Tryz.prog Tryz.f132.ntmps (chkD Tryz.prog Tryz.f132.ntmps) s132 (Tryz.f132.body.getD .skip) = true := by kernel_rfl
theorem en132 : Ent Tryz.prog 132 := ⟨_,Tryz.func132,by kernel_rfl,by kernel_rfl⟩
theorem fn132 {a0 : Value} {own : List HP} {u : Mem} {Q : Value → List HP → Mem → Prop} (h : ∀ cx : Ctx,cx.u = u → W Tryz.prog (chkD Tryz.prog) Tryz.f132.ntmps cx s132 (RetQ cx [.t 2] Q) (env0 0 [a0]) [] own u) : Fn Tryz.prog 132 [a0] own u Q :=
  Fn_of_W (fn := Tryz.f132) (c := Tryz.f132.body.getD .skip) Tryz.func132 (by kernel_rfl) (by kernel_rfl) ck132 (by kernel_rfl) (Nat.le_of_ble_eq_true (by kernel_rfl)) h
end Go.Proofs.YtenmmfkgopffgaaGreatDoor

set_option maxRecDepth 4000
namespace Go.Proofs.YtenmmfkgopffgaaGreatDoor
open Go

structure Span where
  (mark from_ to_ : Int)
  deriving DecidableEq
def spanC (s : Span) : List Value := [ic s.mark, ic s.from_, ic s.to_]
def spanOf (l : Lot) : Span := ⟨l.mark, l.from_, l.to_⟩
def validB (s : Span) : Bool := markB s.mark && decide (0 ≤ s.from_) && decide (s.from_ < s.to_) && decide (s.to_ ≤ 1048576)
theorem mark132_q (x : Int) (u : Mem) : QFn Tryz.prog 132 [ic x] u (.bool (markB x)) := by
  refine fn132 fun cx hu => ?_
  refine W_seq (W_reg ?_)
  simp only [r132_0, sx, Nat.reduceBEq, Nat.reduceAdd, Nat.reduceLeDiff, reduceCtorEq]
  refine W_seq (W_reg ?_)
  simp only [r132_1, sx, Nat.reduceBEq, Nat.reduceAdd, Nat.reduceLeDiff, reduceCtorEq]
  refine W_ret (RetQ.out rfl trivial ⟨?_, rfl, rfl⟩)
  simp [markB]
theorem valid_q (s : Span) (u : Mem) : QFn Tryz.prog 121 [.agg (spanC s).toArray] u (.bool (validB s)) := by
  unfold spanC
  refine fn121 fun cx hu => ?_
  refine W_seq (W_reg ?_)
  simp only [r121_0, r121_0a, sx, Nat.reduceBEq, Nat.reduceAdd, Nat.reduceLeDiff, reduceCtorEq]
  intro b
  refine W_seq (W_reg ?_)
  simp only [r121_1, r121_1a, sx, Nat.reduceBEq, Nat.reduceAdd, Nat.reduceLeDiff, reduceCtorEq]
  refine ⟨_, mark132_q _ _, ?_⟩
  simp only [r121_1b, sx, Nat.reduceBEq, Nat.reduceAdd, Nat.reduceLeDiff, reduceCtorEq]
  refine W_ret (RetQ.outQ hu (mle_refl _) rfl trivial ⟨?_, rfl, rfl⟩)
  simp [validB]
theorem sum1_q (l : Lot) (u : Mem) : QFn Tryz.prog 61 [.agg (lotC l).toArray] u (.bool true) := by
  unfold lotC
  refine fn61 fun cx hu => ?_
  refine W_seq (W_reg ?_)
  simp only [r61_0, r61_0a, sx, Nat.reduceBEq, Nat.reduceAdd, Nat.reduceLeDiff, reduceCtorEq]
  refine W_seq (W_reg ?_)
  simp only [r61_1, sx, Nat.reduceBEq, Nat.reduceAdd, Nat.reduceLeDiff, reduceCtorEq]
  exact W_ret (RetQ.outQ hu (mle_refl _) rfl trivial ⟨rfl, rfl, rfl⟩)
theorem owned1_q (l : Lot) (key : Int) (b : Nat) (T : TypeId) (u : Mem) (hb : u b = some (.cells #[ic key] T (0, 0))) : QFn Tryz.prog 109 [.agg (lotC l).toArray, .pointer (some ⟨b, 0, none⟩)] u (.bool (l.owner == key)) := by
  unfold lotC
  refine fn109 fun cx hu => ?_
  refine W_seq (W_reg ?_)
  simp only [r109_0, r109_0a, sx, Nat.reduceBEq, Nat.reduceAdd, Nat.reduceLeDiff, reduceCtorEq]
  intro b2
  refine W_seq (W_reg ?_)
  simp only [r109_1, r109_1a, sx, Nat.reduceBEq, Nat.reduceAdd, Nat.reduceLeDiff, reduceCtorEq]
  refine ⟨[_], .inl ⟨_, _, _, hb, rfl⟩, rfl, ?_⟩
  simp only [r109_1b, sx, Nat.reduceBEq, Nat.reduceAdd, Nat.reduceLeDiff, reduceCtorEq]
  exact W_ret (RetQ.outQ hu (mle_refl _) rfl trivial ⟨rfl, rfl, rfl⟩)
theorem indexSpans {v : Value} {xs : List Span} {u : Mem} {f : FuncId} (hv : SlF 3 spanC (MU u) v xs) (hf : ∀ s u, QFn Tryz.prog f [.agg (spanC s).toArray] u (.bool (!(validB s)))) (hall : ∀ s ∈ xs, validB s = true) :
    QFn Tryz.prog 131 [v, .func (.func f) #[] #[]] u (ic (-1)) := by
  obtain ⟨a, c, rfl, hmax, hcap, hrow, hlen⟩ := hv
  simp only [List.length_map] at hmax hcap
  refine fn131 fun cx hu => ?_
  refine W_seq (W_reg ?_)
  simp only [r131_0, sx, Nat.reduceBEq, Nat.reduceAdd, Nat.reduceLeDiff, reduceCtorEq]
  refine W_seq (W_seq ?_)
  refine W_reg ?_
  simp only [r131_1, sx, Nat.reduceBEq, Nat.reduceAdd, Nat.reduceLeDiff, reduceCtorEq]
  refine W_blk (W_loop (fun m e bx own u' => ∃ i, i ≤ xs.length ∧ m = xs.length - i ∧ St [(0, .slice a xs.length c), (1, .func (.func f) #[] #[]), (7, ic xs.length), (8, ic i)] [] (fun own u' => u = u' ∧ own = []) e bx own u') (m := xs.length) ⟨0, by omega, by omega, ?_⟩ ?_)
  · rw [List.length_map]; exact .mk ⟨rfl, rfl⟩
  rintro m e bx own u' ⟨i, hi, rfl, ⟨rfl, rfl⟩⟩
  refine W_seq (W_reg ?_)
  simp only [r131_2, sx, Nat.reduceBEq, Nat.reduceAdd, Nat.reduceLeDiff, reduceCtorEq]
  refine W_seq (W_cnd rfl (fun hc => W_skip ?_) (fun hc => W_exit ?_))
  · have hlt : i < xs.length := by simpa using hc
    obtain ⟨b, o, rfl, hr⟩ := hrow (map_ne hlt)
    have hcell := SlC_at hr hlen (by simpa using hlt)
    rw [List.getElem_map] at hcell
    refine W_seq (W_blk ?_)
    refine W_seq (W_reg ?_)
    simp only [r131_3, sx, Nat.reduceBEq, Nat.reduceAdd, Nat.reduceLeDiff, reduceCtorEq]
    refine W_seq (W_reg ?_)
    simp only [r131_4, r131_4a, sx, Nat.reduceBEq, Nat.reduceAdd, Nat.reduceLeDiff, reduceCtorEq]
    refine ⟨by omega, spanC xs[i], hcell.lrow, rfl, ?_⟩
    simp only [r131_4b, sx, Nat.reduceBEq, Nat.reduceAdd, Nat.reduceLeDiff, reduceCtorEq]
    refine CallW.q (hf xs[i] _) ?_
    simp only [sx, Nat.reduceBEq, Nat.reduceAdd, Nat.reduceLeDiff, reduceCtorEq]
    refine W_cnd rfl (fun hb => ?_) (fun hb => W_skip ?_)
    · rw [hall _ (List.getElem_mem hlt)] at hb; cases hb
    · refine W_reg ?_
      simp only [r131_6, sx, Nat.reduceBEq, Nat.reduceAdd, Nat.reduceLeDiff, reduceCtorEq]
      rw [wrapS hlt hmax]
      exact ⟨_, by omega, i + 1, by omega, rfl, .mk ⟨rfl, rfl⟩⟩
  · refine W_seq (W_reg ?_)
    simp only [r131_7, sx, Nat.reduceBEq, Nat.reduceAdd, Nat.reduceLeDiff, reduceCtorEq]
    exact W_ret (RetQ.outQ hu (mle_refl _) rfl trivial ⟨rfl, rfl, rfl⟩)
theorem norm1_q (s : Span) (u : Mem) : QFn Tryz.prog 120 [.agg (spanC s).toArray] u (.bool (!(validB s))) := by
  have hv := valid_q s
  unfold spanC at hv ⊢
  refine fn120 fun cx hu => ?_
  refine W_seq (W_reg ?_)
  simp only [r120_0, r120_0a, sx, Nat.reduceBEq, Nat.reduceAdd, Nat.reduceLeDiff, reduceCtorEq]
  intro b
  refine W_seq (W_reg ?_)
  simp only [r120_1, r120_1a, sx, Nat.reduceBEq, Nat.reduceAdd, Nat.reduceLeDiff, reduceCtorEq]
  refine ⟨_, hv _, ?_⟩
  simp only [r120_1b, sx, Nat.reduceBEq, Nat.reduceAdd, Nat.reduceLeDiff, reduceCtorEq]
  exact W_ret (RetQ.outQ hu (mle_refl _) rfl trivial ⟨rfl, rfl, rfl⟩)
theorem deleteSpans {v : Value} {xs : List Span} {u : Mem} (hv : SlF 3 spanC (MU u) v xs) (hall : ∀ s ∈ xs, validB s = true) : QFn Tryz.prog 118 [v, .func (.func 120) #[] #[]] u v := by
  refine fn118 fun cx hu => ?_
  refine W_seq (W_reg ?_)
  simp only [r118_0, sx, Nat.reduceBEq, Nat.reduceAdd, Nat.reduceLeDiff, reduceCtorEq]
  refine W_seq (W_reg ?_)
  simp only [r118_1, r118_1a, sx, Nat.reduceBEq, Nat.reduceAdd, Nat.reduceLeDiff, reduceCtorEq]
  refine CallW.q (indexSpans hv norm1_q hall) ?_
  simp only [r118_1b, sx, Nat.reduceBEq, Nat.reduceAdd, Nat.reduceLeDiff, reduceCtorEq]
  refine W_seq ?_
  refine W_seq (W_reg ?_)
  simp only [r118_2, sx, Nat.reduceBEq, Nat.reduceAdd, Nat.reduceLeDiff, reduceCtorEq]
  refine W_cnd rfl (fun hb => ?_) (fun hb => by cases hb)
  refine W_seq (W_reg ?_)
  simp only [r118_3, sx, Nat.reduceBEq, Nat.reduceAdd, Nat.reduceLeDiff, reduceCtorEq]
  exact W_ret (RetQ.outQ hu (mle_refl _) rfl trivial ⟨rfl, rfl, rfl⟩)
end Go.Proofs.YtenmmfkgopffgaaGreatDoor
