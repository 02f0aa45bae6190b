/- Part 4: what the last part leans on. -/
import Derived.Test.YtahoelmjfgoedaaGreatQ03
import Derived.Test.YtahoelmjfgoedaaGreatChecked
import Derived.KernelRfl
import Derived.IntWalk
set_option linter.unusedVariables false
set_option linter.unusedSimpArgs false
set_option linter.unusedSectionVars false
namespace Go.Proofs.YtahoelmjfgoedaaGreat.T
open Go.RowKit Go.Sim
noncomputable section
abbrev PG:Program:=Go.Proofs.Tryz.prog
abbrev FB:=W1j→W0i→Nat→St→Option (Exit×St)
abbrev F0:=W1j→W0i→ZT→List Reg→Option (AV×List Reg)
def SE0(f:Nat)(k:KT)(s:F0):Prop:=∀lp c z rg,evR PG lp c false rg.length (tOf PG f).code k (W0w 0 []) rg (fun e sl rg1=>endR z rg.length (tOf PG f).res (e,⟨sl,rg1⟩))=s lp c z rg
abbrev F1:=W1j→W0i→ZT→AV→List Reg→Option (AV×List Reg)
def SE1(f:Nat)(k:KT)(s:F1):Prop:=∀lp c z a0 rg,evR PG lp c false rg.length (tOf PG f).code k (W0w 0 [a0]) rg (fun e sl rg1=>endR z rg.length (tOf PG f).res (e,⟨sl,rg1⟩))=s lp c z a0 rg
abbrev F2:=W1j→W0i→ZT→AV→AV→List Reg→Option (AV×List Reg)
def SE2(f:Nat)(k:KT)(s:F2):Prop:=∀lp c z a0 a1 rg,evR PG lp c false rg.length (tOf PG f).code k (W0w 0 [a0,a1]) rg (fun e sl rg1=>endR z rg.length (tOf PG f).res (e,⟨sl,rg1⟩))=s lp c z a0 a1 rg
abbrev F3:=W1j→W0i→ZT→AV→AV→AV→List Reg→Option (AV×List Reg)
def SE3(f:Nat)(k:KT)(s:F3):Prop:=∀lp c z a0 a1 a2 rg,evR PG lp c false rg.length (tOf PG f).code k (W0w 0 [a0,a1,a2]) rg (fun e sl rg1=>endR z rg.length (tOf PG f).res (e,⟨sl,rg1⟩))=s lp c z a0 a1 a2 rg
abbrev F4:=W1j→W0i→ZT→AV→AV→AV→AV→List Reg→Option (AV×List Reg)
def SE4(f:Nat)(k:KT)(s:F4):Prop:=∀lp c z a0 a1 a2 a3 rg,evR PG lp c false rg.length (tOf PG f).code k (W0w 0 [a0,a1,a2,a3]) rg (fun e sl rg1=>endR z rg.length (tOf PG f).res (e,⟨sl,rg1⟩))=s lp c z a0 a1 a2 a3 rg
abbrev F5:=W1j→W0i→ZT→AV→AV→AV→AV→AV→List Reg→Option (AV×List Reg)
def SE5(f:Nat)(k:KT)(s:F5):Prop:=∀lp c z a0 a1 a2 a3 a4 rg,evR PG lp c false rg.length (tOf PG f).code k (W0w 0 [a0,a1,a2,a3,a4]) rg (fun e sl rg1=>endR z rg.length (tOf PG f).res (e,⟨sl,rg1⟩))=s lp c z a0 a1 a2 a3 a4 rg
abbrev F6:=W1j→W0i→ZT→AV→AV→AV→AV→AV→AV→List Reg→Option (AV×List Reg)
def SE6(f:Nat)(k:KT)(s:F6):Prop:=∀lp c z a0 a1 a2 a3 a4 a5 rg,evR PG lp c false rg.length (tOf PG f).code k (W0w 0 [a0,a1,a2,a3,a4,a5]) rg (fun e sl rg1=>endR z rg.length (tOf PG f).res (e,⟨sl,rg1⟩))=s lp c z a0 a1 a2 a3 a4 a5 rg
def k7:KT:=(.n (.l [2,3]) (.n (.n (.l [2,3,9]) (.n (.n (.l [4]) (.l [])) (.l []))) (.n (.l [2,3]) (.n (.l [2,3,5,6]) (.n (.l [2,3,5,6,7]) (.n (.n (.l [2,3,5,6,7,26]) (.n (.l [2,3,5,6,7]) (.l []))) (.n (.n (.l [2,3,5,6,7,28]) (.n (.n (.l [4]) (.l [])) (.l []))) (.n (.l [4]) (.l [])))))))))
def s7:F2:=fun lp c z a0 a1 rg=>
B2 (vbox a0 rg) fun v1 r2=>
B2 (vbox a1 r2) fun v3 r4=>
B2 (c (.fn 15) [] r4) fun v5 r6=>
B1 (vun .not v5) fun v7=>
Cd (W00 v7) (
Fin z rg.length [(Bo false)] r6) (
B1 (W01 r6 4 true v1) fun v8=>
B2 (c (.fn 16) [v8] r6) fun v9 r10=>
B0 (W03 r10 4 v1 v9) fun r11=>
B1 (W01 r11 4 true v1) fun v12=>
B1 (W01 r11 5 true v3) fun v13=>
B2 (c (.fn 18) [v12,v13] r11) fun v14 r15=>
B1 (vext 0 v14) fun v16=>
B1 (vext 1 v14) fun v17=>
B1 (W01 r15 4 true v1) fun v18=>
B2 (c (.fn 36) [v18] r15) fun v19 r20=>
Jn (κ:=AV→AV→AV→AV→AV→List Reg→Option (AV×List Reg)) (fun j2_21 j3_21 j5_21 j6_21 j7_21 rj_21=>
B1 (vbin .neq j7_21 (I .i64 0)) fun v22=>
Cd (W00 v22) (
B2 (xE (.nilq 0 false) [j5_21] rj_21) fun v23 r24=>
B1 (Gv true v23 (some j6_21)) fun v25=>
B1 (Gv true v23 (some j7_21)) fun v26=>
B1 (Gv true v23 (vbin .eql v25 v26)) fun v27=>
B1 (W0c v23 v27 (Bo false)) fun v28=>
Fin z rg.length [v28] r24) (
B2 (xE (.nilq 0 true) [j5_21] rj_21) fun v29 r30=>
B1 (Gv true v29 (some j6_21)) fun v31=>
B1 (Gv true v29 (vbin .eql v31 (I .i64 0))) fun v32=>
B1 (W0c v29 v32 (Bo false)) fun v33=>
B1 (Gv true v33 (some j5_21)) fun v34=>
B1 (Gv true v33 (W01 r30 4 true j2_21)) fun v35=>
B1 (Gv true v33 (W01 r30 5 true j3_21)) fun v36=>
B1 (Gv true v33 (W01 r30 4 true j2_21)) fun v37=>
B1 (Gv true v33 (W01 r30 5 true j3_21)) fun v38=>
B2 (Gr true v33 r30 (c (.fn 39) [v37,v38] r30)) fun v39 r40=>
B1 (Gv true v33 (W01 r40 4 true j2_21)) fun v41=>
Sm v41 v35 (
B1 (Gv true v33 (W01 r40 5 true j3_21)) fun v42=>
Sm v42 v36 (
B2 (Gr true v33 r40 (c (.fn 38) [v34,v35,v36,v39,(I .i64 0)] r40)) fun v43 r44=>
B1 (W0c v33 v43 (Bo false)) fun v45=>
Fin z rg.length [v45] r44)))) fun k_21=>
B1 (vbin .eql v19 (I .i64 0)) fun v46=>
B1 (Gv true v46 (W01 r20 5 true v3)) fun v47=>
B2 (Gr true v46 r20 (c (.fn 37) [v47] r20)) fun v48 r49=>
B1 (Gv true v46 (vun .not v48)) fun v50=>
B1 (W0c v46 v50 (Bo false)) fun v51=>
Cd (W00 v51) (
k_21 v1 v3 v16 v17 (I .i64 3) r49) (
k_21 v1 v3 v16 v17 v19 r49))
theorem S7:SE2 7 k7 s7:=fun _ _ _ _ _ _=>by kernel_rfl
def k15:KT:=(.n (.l []) (.n (.l [1,2]) (.n (.n (.l [1,20]) (.n (.n (.l [0]) (.l [])) (.l []))) (.n (.l [1,4]) (.n (.l [1,4,6]) (.n (.l [1,4,6,7,8]) (.n (.l [0]) (.l []))))))))
def s15:F0:=fun lp c z rg=>
B2 (c (.fn 57) [] rg) fun v1 r2=>
B1 (W06 [(.int .i64 0),(.int .i64 0),(.int .i64 0),(.int .i64 0),(.int .i64 0)] [(2,1,(I .i64 1)),(3,1,(I .i64 4)),(4,1,(I .i64 1))]) fun v3=>
B2 (c (.fn 18) [v1,v3] r2) fun v4 r5=>
B1 (vext 0 v4) fun v6=>
B1 (vext 1 v4) fun v7=>
B1 (vbin .neq v7 (I .i64 0)) fun v8=>
B1 (Gv false v8 (some v6)) fun v9=>
B2 (Gr false v8 r5 (xE (.nilq 0 false) [v9] r5)) fun v10 r11=>
B1 (W0c v8 (Bo true) v10) fun v12=>
Cd (W00 v12) (
Fin z rg.length [(Bo false)] r11) (
B2 (c (.fn 25) [v6,(I .i64 0)] r11) fun v13 r14=>
B1 (vext 0 v13) fun v15=>
B1 (vext 1 v13) fun v16=>
B2 (c (.fn 25) [v6,(I .i64 0)] r14) fun v17 r18=>
B1 (vext 0 v17) fun v19=>
B1 (vext 1 v17) fun v20=>
B2 (c (.fn 25) [v6,(I .i64 0)] r18) fun v21 r22=>
B1 (vext 0 v21) fun v23=>
B1 (vext 1 v21) fun v24=>
B1 (Gv true v16 (some v20)) fun v25=>
B1 (W0c v16 v25 (Bo false)) fun v26=>
B1 (Gv true v26 (some v24)) fun v27=>
B1 (W0c v26 v27 (Bo false)) fun v28=>
B1 (Gv true v28 (some v23)) fun v29=>
B1 (Gv true v28 (vlen v29)) fun v30=>
B1 (Gv true v28 (vbin .eql v30 (I .i64 1))) fun v31=>
B1 (W0c v28 v31 (Bo false)) fun v32=>
B1 (Gv true v32 (some v23)) fun v33=>
B1 (Gv true v32 (vixs 3 (I .i64 0) v33)) fun v34=>
B1 (Gv true v32 (W01 r22 3 true v34)) fun v35=>
B1 (Gv true v32 (W06 [(.int .i64 0),(.int .i64 0),(.int .i64 0)] [(0,1,(I .i64 2)),(2,1,(I .i64 2))])) fun v36=>
B1 (Gv true v32 (veqs Go.Proofs.Tryz.prog false 46 [.i64,.i64,.i64] v35 v36)) fun v37=>
B1 (W0c v32 v37 (Bo false)) fun v38=>
B1 (Gv true v38 (some v6)) fun v39=>
B2 (Gr true v38 r22 (c (.fn 22) [v39] r22)) fun v40 r41=>
B1 (W0c v38 v40 (Bo false)) fun v42=>
B1 (Gv true v42 (some v6)) fun v43=>
B2 (Gr true v42 r41 (c (.fn 26) [v43] r41)) fun v44 r45=>
B1 (Gv true v42 (vbin .eql v44 (I .i64 3))) fun v46=>
B1 (W0c v42 v46 (Bo false)) fun v47=>
Fin z rg.length [v47] r45)
theorem S15:SE0 15 k15 s15:=fun _ _ _ _=>by kernel_rfl
def V7p:KT:=(.n (.n (.l [1,2,3,4,14]) (.n (.l []) (.l []))) (.n (.n (.l [1,2,3,4,5]) (.n (.n (.l [1,2,3,4,5,24]) (.n (.l [1,2,3,4,5]) (.l []))) (.l [1,2,3,4]))) (.l [1,2,3,4])))
def k16:KT:=(.n (.l [1,2]) (.n (.l [1,2,3]) (.n (.n (.l [1,2,3,4]) V7p) (.n (.l [1,2]) (.n (.l [2]) (.l []))))))
def Wel:FB:=fun lp c n0 s=>
FL 3 (s.g 1) s.regs fun v6=>
B1 (vlen v6) fun v7=>
B1 (vbin .lss (s.g 4) v7) fun v8=>
B1 (Gv true v8 (some (s.g 4))) fun v9=>
B1 (Gv true v8 (vbin .lss v9 (I .i64 6))) fun v10=>
B1 (W0c v8 v10 (Bo false)) fun v11=>
Cd (W00 v11) (
FL 3 (s.g 1) s.regs fun v13=>
B1 (vixs 1 (s.g 4) v13) fun v14=>
L1 s.regs v14 fun v15=>
Jn (κ:=AV→AV→AV→AV→AV→List Reg→Option (Exit×St)) (fun j1_16 j2_16 j3_16 j4_16 j5_16 rj_16=>
B2 (W0x rj_16 1 1 [(.slice none 0 0)] [(0,j5_16)]) fun v17 r18=>
B2 (vapp r18 1 24 j3_16 v17) fun v19 r20=>
B1 (vbin .add j4_16 (I .i64 1)) fun v21=>
some (.normal,(⟨[(4,v21),(3,v19),(2,j2_16),(1,j1_16)],r20⟩:St))) fun k_16=>
B1 (vlen v15) fun v22=>
B1 (vbin .gtr v22 (I .i64 20)) fun v23=>
Cd (W00 v23) (
B1 (vsls 5 v15 none (some (I .i64 20)) none) fun v24=>
k_16 (s.g 1) (s.g 2) (s.g 3) (s.g 4) v24 s.regs) (
k_16 (s.g 1) (s.g 2) (s.g 3) (s.g 4) v15 s.regs)) (
some ((.exit 0),(⟨[(14,v11),(4,(s.g 4)),(3,(s.g 3)),(2,(s.g 2)),(1,(s.g 1))],s.regs⟩:St)))
def s16:F1:=fun lp c z a0 rg=>
B2 (vbox a0 rg) fun v1 r2=>
B2 (W08 [(.int .i64 0),(.int .i64 0),(.int .i64 0),(.slice none 0 0)] r2) fun v3 r4=>
B3 (lp (Wel lp c rg.length) (⟨[(4,(I .i64 0)),(3,(AV.c (.p (.v (.slice none 0 0))))),(2,v3),(1,v1)],r4⟩:St)) fun e25 s26=>X3 e25 (
none) (
Rc z rg.length (cons? (W0q (lk s26.slots 2) s26.regs 4 true) (some [])) s26.regs) (fun i27=>
(bif Nat.beq i27 0 then (
B1 (vfad 3 (s26.g 1)) fun v29=>
B0 (W03 s26.regs 1 v29 (s26.g 3)) fun r30=>
B1 (W01 r30 4 true (s26.g 1)) fun v31=>
B0 (W03 r30 4 (s26.g 2) v31) fun r32=>
Rc z rg.length (cons? (W0q (s26.g 2) r32 4 true) (some [])) r32)else (
none)))
theorem S16:SE1 16 k16 s16:=fun _ _ _ _ _=>by kernel_rfl
def V7q:KT:=(.n (.l [7,62,63,64]) (.n (.n (.l []) (.l [])) (.n (.n (.l [7,8,62,63]) (.l [7,62,63])) (.l [7,62,63]))))
def V7r:KT:=(.n (.l [3,7,31,32,33]) (.n (.n (.l []) (.l [])) (.n (.n (.l [3,7,31,32]) (.l [3,7,31,32])) (.l [3,7,31,32]))))
def k18:KT:=(.n (.l [2,3]) (.n (.l [2,3,6]) (.n (.n (.l [2,3,6,16]) (.n (.n (.l [4,5]) (.l [])) (.l []))) (.n (.l [2,3,7]) (.n (.n (.l [3,7,31,32]) V7r) (.n (.n (.l [7,62,63]) V7q) (.n (.l [4,5]) (.l []))))))))
def Wpj:FB:=fun lp c n0 s=>
B1 (vbin .lss (s.g 63) (s.g 62)) fun v82=>
Cd (W00 v82) (
B2 (c (.fn 66) [(s.g 7),(s.g 63)] s.regs) fun v83 r84=>
B1 (vbin .add (s.g 63) (I .i64 1)) fun v85=>
some (.normal,(⟨[(63,v85),(62,(s.g 62)),(7,(s.g 7))],r84⟩:St))) (
some ((.exit 2),(⟨[(64,v82),(63,(s.g 63)),(62,(s.g 62)),(7,(s.g 7))],s.regs⟩:St)))
def Wpk:FB:=fun lp c n0 s=>
B1 (vbin .lss (s.g 32) (s.g 31)) fun v41=>
Cd (W00 v41) (
B1 (W0a (s.g 7)) fun v42=>
B1 (vfad 25 v42) fun v43=>
L1 s.regs v43 fun v44=>
B1 (W01 s.regs 5 true (s.g 3)) fun v45=>
B2 (c (.fn 64) [v45] s.regs) fun v46 r47=>
L1 r47 v43 fun v48=>
Sm v48 v44 (
B2 (W0x r47 22 1 [(.int .i64 0),(.int .i64 0),(.int .i64 0),(.int .i64 0),(.int .i64 0),(.int .i64 0),(.int .i64 0),(.int .i64 0),(.int .i64 0),(.int .i64 0),(.int .i64 0),(.int .i64 0),(.int .i64 0),(.int .i64 0),(.int .i64 0),(.int .i64 0),(.int .i64 0),(.int .i64 0),(.slice none 0 0),(.slice none 0 0),(.slice none 0 0),(.int .i64 0)] [(0,v46)]) fun v49 r50=>
L1 r50 v43 fun v51=>
Sm v51 v44 (
B2 (vapp r50 22 224 v44 v49) fun v52 r53=>
B1 (W0a (s.g 7)) fun v54=>
B1 (vfad 25 v54) fun v55=>
B0 (W03 r53 1 v55 v52) fun r56=>
B1 (W0a (s.g 7)) fun v57=>
B1 (vfad 26 v57) fun v58=>
L1 r56 v58 fun v59=>
FL 4 (s.g 3) r56 fun v61=>
B2 (c (.fn 65) [v61] r56) fun v62 r63=>
L1 r63 v58 fun v64=>
Sm v64 v59 (
B2 (W0x r63 1 1 [(.pointer none)] [(0,v62)]) fun v65 r66=>
L1 r66 v58 fun v67=>
Sm v67 v59 (
B2 (vapp r66 1 8 v59 v65) fun v68 r69=>
B1 (W0a (s.g 7)) fun v70=>
B1 (vfad 26 v70) fun v71=>
B0 (W03 r69 1 v71 v68) fun r72=>
B1 (vbin .add (s.g 32) (I .i64 1)) fun v73=>
some (.normal,(⟨[(32,v73),(31,(s.g 31)),(7,(s.g 7)),(3,(s.g 3))],r72⟩:St))))))) (
some ((.exit 0),(⟨[(33,v41),(32,(s.g 32)),(31,(s.g 31)),(7,(s.g 7)),(3,(s.g 3))],s.regs⟩:St)))
def s18:F2:=fun lp c z a0 a1 rg=>
B2 (vbox a0 rg) fun v1 r2=>
B2 (vbox a1 r2) fun v3 r4=>
B1 (W01 r4 4 true v1) fun v5=>
B1 (W01 r4 5 true v3) fun v6=>
B2 (c (.fn 59) [v5] r4) fun v7 r8=>
B1 (W01 r8 5 true v3) fun v9=>
Sm v9 v6 (
B2 (c (.fn 60) [v6] r8) fun v10 r11=>
B2 (W0x r11 1 2 [(.int .i64 0)] [(0,v7),(1,v10)]) fun v12 r13=>
B2 (c (.fn 58) [v12] r13) fun v14 r15=>
B1 (vbin .neq v14 (I .i64 0)) fun v16=>
Cd (W00 v16) (
Fin z rg.length [(AV.c (.p (.v (.pointer none)))),v14] r15) (
B1 (W01 r15 4 true v1) fun v17=>
B1 (vfad 1 v1) fun v18=>
L1 r15 v18 fun v19=>
B1 (W01 r15 4 true v1) fun v20=>
B1 (W01 r15 5 true v3) fun v21=>
B2 (c (.fn 61) [v17] r15) fun v22 r23=>
L1 r23 v18 fun v24=>
Sm v24 v19 (
B1 (W01 r23 4 true v1) fun v25=>
Sm v25 v20 (
B1 (W01 r23 5 true v3) fun v26=>
Sm v26 v21 (
B2 (c (.fn 62) [v19] r23) fun v27 r28=>
B1 (W01 r28 4 true v1) fun v29=>
Sm v29 v20 (
B1 (W01 r28 5 true v3) fun v30=>
Sm v30 v21 (
B1 (W06 [(.pointer none),(.pointer none)] [(0,1,v22),(1,1,v27)]) fun v31=>
B2 (c (.fn 63) [v20] r28) fun v32 r33=>
B1 (W01 r33 5 true v3) fun v34=>
Sm v34 v21 (
B1 (W06 [(.pointer none),(.pointer none),(.int .u64 0),(.int .u64 0),(.int .u64 0),(.int .u64 0),(.int .u64 0),(.int .u64 0),(.int .u64 0),(.int .u64 0),(.int .u64 0),(.bool false),(.bool false),(.bool false),(.bool false),(.bool false),(.int .i64 0),(.int .i64 0),(.int .i64 0),(.slice none 0 0),(.int .i64 0),(.int .i64 0),(.int .i64 0),(.int .i64 0),(.int .i64 0),(.slice none 0 0),(.slice none 0 0),(.slice none 0 0)] [(0,2,v31),(16,4,v32),(20,5,v21)]) fun v35=>
B2 (vbox v35 r33) fun v36 r37=>
FL 3 v1 r37 fun v39=>
B1 (vlen v39) fun v40=>
B3 (lp (Wpk lp c rg.length) (⟨[(32,(I .i64 0)),(31,v40),(7,v36),(3,v3)],r37⟩:St)) fun e74 s75=>X3 e74 (
none) (
Fin z rg.length [(lk s75.slots 4),(lk s75.slots 5)] s75.regs) (fun i76=>
(bif Nat.beq i76 0 then (
B1 (W0a (s75.g 7)) fun v78=>
FL 25 v78 s75.regs fun v80=>
B1 (vlen v80) fun v81=>
B3 (lp (Wpj lp c rg.length) (⟨[(63,(I .i64 0)),(62,v81),(7,(s75.g 7))],s75.regs⟩:St)) fun e86 s87=>X3 e86 (
none) (
Fin z rg.length [(lk s87.slots 4),(lk s87.slots 5)] s87.regs) (fun i88=>
(bif Nat.beq i88 2 then (
Fin z rg.length [(s87.g 7),(I .i64 0)] s87.regs)else (
none))))else (
none)))))))))))
theorem S18:SE2 18 k18 s18:=fun _ _ _ _ _ _=>by kernel_rfl
def k21:KT:=(.n (.l [2,3]) (.n (.n (.l [2,7]) (.n (.n (.l [4]) (.l [])) (.l []))) (.n (.l [4]) (.l []))))
def s21:F2:=fun lp c z a0 a1 rg=>
B2 (vbox a0 rg) fun v1 r2=>
B2 (vbox a1 r2) fun v3 r4=>
FL 1 v3 r4 fun v6=>
B1 (vbin .eql v6 (I .i64 1)) fun v7=>
Cd (W00 v7) (
FL 3 v1 r4 fun v9=>
B1 (vlen v9) fun v10=>
B1 (vbin .mul (I .i64 2) v10) fun v11=>
Fin z rg.length [v11] r4) (
FL 3 v1 r4 fun v13=>
B1 (vlen v13) fun v14=>
Fin z rg.length [v14] r4)
theorem S21:SE2 21 k21 s21:=fun _ _ _ _ _ _=>by kernel_rfl
def V7s:KT:=(.n (.l [0,10,11,12,13]) (.n (.n (.l []) (.l [])) (.n (.n (.l [0,3,4,10,11,12]) (.n (.l [0,10,11,12,38]) (.n (.n (.l [2]) (.l [])) (.l [])))) (.l [0,10,11,12]))))
def k22:KT:=(.n (.l [0]) (.n (.n (.l [0,6]) (.n (.n (.l [2]) (.l [])) (.l []))) (.n (.n (.l [0,10,11,12]) V7s) (.n (.l [2]) (.l [])))))
def Wg8:FB:=fun lp c n0 s=>
B1 (vbin .lss (s.g 12) (s.g 11)) fun v7=>
Cd (W00 v7) (
B1 (vixs 22 (s.g 12) (s.g 10)) fun v8=>
B1 (W01 s.regs 22 true v8) fun v9=>
B2 (W08 [(.int .i64 0),(.int .i64 0),(.int .i64 0),(.int .i64 0),(.int .i64 0),(.int .i64 0),(.int .i64 0),(.int .i64 0),(.int .i64 0),(.int .i64 0),(.int .i64 0),(.int .i64 0),(.int .i64 0),(.int .i64 0),(.int .i64 0),(.int .i64 0),(.int .i64 0),(.int .i64 0),(.slice none 0 0),(.slice none 0 0),(.slice none 0 0),(.int .i64 0)] s.regs) fun v10 r11=>
B0 (W03 r11 22 v10 v9) fun r12=>
B1 (W01 r12 22 true v10) fun v13=>
B1 (W0a (s.g 0)) fun v14=>
B1 (vfad 16 v14) fun v15=>
FL 3 v15 r12 fun v17=>
B1 (vixs 1 (s.g 12) v17) fun v18=>
L1 r12 v18 fun v19=>
B2 (c (.fn 69) [v13,v19] r12) fun v20 r21=>
B1 (vun .not v20) fun v22=>
B1 (Gv false v22 (some (s.g 0))) fun v23=>
B1 (Gv false v22 (W0a v23)) fun v24=>
B1 (Gv false v22 (vfad 26 v24)) fun v25=>
B1 (Gv false v22 (W01 r21 1 false v25)) fun v26=>
B1 (Gv false v22 (some (s.g 12))) fun v27=>
B1 (Gv false v22 (vixs 1 v27 v26)) fun v28=>
B1 (Gv false v22 (W01 r21 1 false v28)) fun v29=>
B2 (Gr false v22 r21 (c (.fn 70) [v29] r21)) fun v30 r31=>
B1 (Gv false v22 (vbin .gtr v30 (I .i64 0))) fun v32=>
B1 (W0c v22 (Bo true) v32) fun v33=>
Cd (W00 v33) (
some (.ret,(⟨[(2,(Bo false))],r31⟩:St))) (
B1 (vbin .add (s.g 12) (I .i64 1)) fun v34=>
some (.normal,(⟨[(12,v34),(11,(s.g 11)),(10,(s.g 10)),(0,(s.g 0))],r31⟩:St)))) (
some ((.exit 0),(⟨[(13,v7),(12,(s.g 12)),(11,(s.g 11)),(10,(s.g 10)),(0,(s.g 0))],s.regs⟩:St)))
def s22:F1:=fun lp c z a0 rg=>
B2 (c (.fn 68) [a0] rg) fun v1 r2=>
Cd (W00 v1) (
Fin z rg.length [(Bo false)] r2) (
B1 (W0a a0) fun v3=>
FL 25 v3 r2 fun v5=>
B1 (vlen v5) fun v6=>
B3 (lp (Wg8 lp c rg.length) (⟨[(12,(I .i64 0)),(11,v6),(10,v5),(0,a0)],r2⟩:St)) fun e35 s36=>X3 e35 (
none) (
Fin z rg.length [(lk s36.slots 2)] s36.regs) (fun i37=>
(bif Nat.beq i37 0 then (
Fin z rg.length [(Bo true)] s36.regs)else (
none))))
theorem S22:SE1 22 k22 s22:=fun _ _ _ _ _=>by kernel_rfl
def k24:KT:=(.n (.l [0,1]) (.n (.l [0,1,5]) (.n (.n (.l [0,1,14]) (.n (.n (.l [4]) (.l [])) (.l []))) (.n (.n (.l [0,1,21]) (.n (.n (.l [4]) (.l [])) (.l []))) (.n (.l [0,6,7]) (.n (.n (.l [6,69]) (.n (.n (.l [4]) (.l [])) (.l []))) (.n (.l [4]) (.l []))))))))
def s24:F2:=fun lp c z a0 a1 rg=>
B2 (c (.fn 53) [a0] rg) fun v1 r2=>
B1 (vbin .sub v1 (I .i64 1)) fun v3=>
B2 (c (.fn 71) [a1,(I .i64 0),v3] r2) fun v4 r5=>
B1 (vun .not v4) fun v6=>
Cd (W00 v6) (
Fin z rg.length [(Bo false)] r5) (
B1 (W0a a0) fun v7=>
FL 25 v7 r5 fun v9=>
B1 (vlen v9) fun v10=>
B1 (vbin .geq a1 v10) fun v11=>
Cd (W00 v11) (
B1 (W0a a0) fun v12=>
FL 26 v12 r5 fun v14=>
B1 (W0a a0) fun v15=>
FL 25 v15 r5 fun v17=>
B1 (vlen v17) fun v18=>
B1 (vbin .sub a1 v18) fun v19=>
B1 (vixs 1 v19 v14) fun v20=>
L1 r5 v20 fun v21=>
B2 (c (.fn 70) [v21] r5) fun v22 r23=>
B1 (vbin .gtr v22 (I .i64 0)) fun v24=>
Fin z rg.length [v24] r23) (
B1 (W0a a0) fun v25=>
B1 (vfad 26 v25) fun v26=>
L1 r5 v26 fun v27=>
B1 (vixs 1 a1 v27) fun v28=>
L1 r5 v28 fun v29=>
B2 (c (.fn 72) [a0,a1] r5) fun v30 r31=>
L1 r31 v26 fun v32=>
Sm v32 v27 (
L1 r31 v28 fun v33=>
Sm v33 v29 (
B2 (W08 [(.int .i64 0),(.int .i64 0),(.int .i64 0),(.int .i64 0),(.int .i64 0),(.int .i64 0),(.int .i64 0),(.int .i64 0),(.int .i64 0),(.int .i64 0),(.int .i64 0),(.int .i64 0),(.int .i64 0),(.int .i64 0)] r31) fun v34 r35=>
L1 r35 v26 fun v36=>
Sm v36 v27 (
L1 r35 v28 fun v37=>
Sm v37 v29 (
B0 (W03 r35 14 v34 v30) fun r38=>
L1 r38 v26 fun v39=>
Sm v39 v27 (
L1 r38 v28 fun v40=>
Sm v40 v29 (
B1 (W0a a0) fun v41=>
B1 (vfad 20 v41) fun v42=>
FL 1 v42 r38 fun v44=>
B1 (vbin .eql v44 (I .i64 1)) fun v45=>
B1 (Gv true v45 (W01 r38 14 true v34)) fun v46=>
B2 (Gr true v45 r38 (c (.fn 73) [v46] r38)) fun v47 r48=>
B1 (Gv true v45 (some v47)) fun v49=>
B1 (Gv true v49 (some v29)) fun v50=>
B2 (Gr true v49 r48 (c (.fn 74) [v50] r48)) fun v51 r52=>
B1 (Gv true v45 (W0c v49 v51 (Bo false))) fun v53=>
B1 (Gv true v45 (some v53)) fun v54=>
B1 (Gv false v54 (W01 r52 14 true v34)) fun v55=>
B2 (Gr false v54 r52 (c (.fn 75) [v55] r52)) fun v56 r57=>
B1 (Gv false v54 (some v56)) fun v58=>
B1 (Gv true v58 (some v29)) fun v59=>
B2 (Gr true v58 r57 (c (.fn 70) [v59] r57)) fun v60 r61=>
B1 (Gv true v58 (vbin .gtr v60 (I .i64 0))) fun v62=>
B1 (Gv false v54 (W0c v58 v62 (Bo false))) fun v63=>
B1 (Gv true v45 (W0c v54 (Bo true) v63)) fun v64=>
B1 (W0c v45 v64 (Bo false)) fun v65=>
Cd (W00 v65) (
Fin z rg.length [(Bo false)] r61) (
FL 0 v34 r61 fun v67=>
B1 (vbin .neq v67 (I .i64 0)) fun v68=>
Fin z rg.length [v68] r61)))))))))
theorem S24:SE2 24 k24 s24:=fun _ _ _ _ _ _=>by kernel_rfl
def k25:KT:=(.n (.l [0,1]) (.n (.n (.l [0,1,11]) (.n (.n (.l [4,5]) (.l [])) (.l []))) (.n (.l [0,1,6]) (.n (.l [0,1,6]) (.n (.l [0,1,6]) (.n (.n (.l [0,6,63]) (.n (.l [0,6,7]) (.l [0,6,7]))) (.n (.l [0,7]) (.n (.n (.l [0,7,74]) (.n (.l [7]) (.l []))) (.n (.l [4,5]) (.l []))))))))))
def s25:F2:=fun lp c z a0 a1 rg=>
B2 (c (.fn 24) [a0,a1] rg) fun v1 r2=>
B1 (vun .not v1) fun v3=>
Cd (W00 v3) (
Fin z rg.length [(AV.c (.p (.v (.slice none 0 0)))),(Bo false)] r2) (
B1 (W0a a0) fun v4=>
FL 25 v4 r2 fun v6=>
B1 (vlen v6) fun v7=>
B1 (vbin .rem a1 v7) fun v8=>
B1 (W0a a0) fun v9=>
B1 (vfad 27 v9) fun v10=>
L1 r2 v10 fun v11=>
B1 (W0a a0) fun v12=>
B1 (vfad 25 v12) fun v13=>
L1 r2 v13 fun v14=>
B1 (vixs 22 v8 v14) fun v15=>
B1 (W01 r2 22 true v15) fun v16=>
B1 (W0a a0) fun v17=>
FL 26 v17 r2 fun v19=>
B1 (vixs 1 v8 v19) fun v20=>
L1 r2 v20 fun v21=>
B1 (W0a a0) fun v22=>
B1 (vfad 0 v22) fun v23=>
B1 (vfad 0 v23) fun v24=>
L1 r2 v24 fun v25=>
B1 (W0a a0) fun v26=>
B1 (vfad 0 v26) fun v27=>
B1 (vfad 1 v27) fun v28=>
L1 r2 v28 fun v29=>
B1 (W0a a0) fun v30=>
B1 (vfad 2 v30) fun v31=>
B1 (W01 r2 14 true v31) fun v32=>
B2 (c (.fn 76) [v21] r2) fun v33 r34=>
L1 r34 v10 fun v35=>
Sm v35 v11 (
L1 r34 v13 fun v36=>
Sm v36 v14 (
B1 (W01 r34 22 true v15) fun v37=>
Sm v37 v16 (
L1 r34 v24 fun v38=>
Sm v38 v25 (
L1 r34 v28 fun v39=>
Sm v39 v29 (
B1 (W01 r34 14 true v31) fun v40=>
Sm v40 v32 (
B2 (c (.fn 77) [v25] r34) fun v41 r42=>
L1 r42 v10 fun v43=>
Sm v43 v11 (
L1 r42 v13 fun v44=>
Sm v44 v14 (
B1 (W01 r42 22 true v15) fun v45=>
Sm v45 v16 (
L1 r42 v28 fun v46=>
Sm v46 v29 (
B1 (W01 r42 14 true v31) fun v47=>
Sm v47 v32 (
B2 (c (.fn 78) [v29] r42) fun v48 r49=>
L1 r49 v10 fun v50=>
Sm v50 v11 (
L1 r49 v13 fun v51=>
Sm v51 v14 (
B1 (W01 r49 22 true v15) fun v52=>
Sm v52 v16 (
B1 (W01 r49 14 true v31) fun v53=>
Sm v53 v32 (
B1 (W06 [(.int .i64 0),(.int .i64 0),(.int .i64 0),(.int .i64 0),(.int .i64 0),(.int .i64 0),(.int .i64 0),(.int .i64 0),(.int .i64 0),(.int .i64 0),(.int .i64 0),(.int .i64 0),(.int .i64 0),(.int .i64 0),(.int .i64 0),(.int .i64 0),(.int .i64 0),(.int .i64 0),(.int .i64 0),(.slice none 0 0),(.slice none 0 0),(.slice none 0 0),(.int .i64 0),(.pointer none),(.int .i64 0),(.int .i64 0),(.int .u64 0),(.int .u64 0),(.int .u64 0),(.int .u64 0),(.int .u64 0),(.int .u64 0),(.int .u64 0),(.int .u64 0),(.int .u64 0),(.bool false),(.bool false),(.bool false),(.bool false),(.bool false)] [(0,1,v8),(1,22,v16),(23,1,v33),(24,1,v41),(25,1,v48),(26,14,v32)]) fun v54=>
B2 (W0x r49 40 1 [(.int .i64 0),(.int .i64 0),(.int .i64 0),(.int .i64 0),(.int .i64 0),(.int .i64 0),(.int .i64 0),(.int .i64 0),(.int .i64 0),(.int .i64 0),(.int .i64 0),(.int .i64 0),(.int .i64 0),(.int .i64 0),(.int .i64 0),(.int .i64 0),(.int .i64 0),(.int .i64 0),(.int .i64 0),(.slice none 0 0),(.slice none 0 0),(.slice none 0 0),(.int .i64 0),(.pointer none),(.int .i64 0),(.int .i64 0),(.int .u64 0),(.int .u64 0),(.int .u64 0),(.int .u64 0),(.int .u64 0),(.int .u64 0),(.int .u64 0),(.int .u64 0),(.int .u64 0),(.bool false),(.bool false),(.bool false),(.bool false),(.bool false)] [(0,v54)]) fun v55 r56=>
L1 r56 v10 fun v57=>
Sm v57 v11 (
B2 (vapp r56 40 336 v11 v55) fun v58 r59=>
B1 (W0a a0) fun v60=>
B1 (vfad 27 v60) fun v61=>
B0 (W03 r59 1 v61 v58) fun r62=>
Jn (κ:=AV→AV→AV→List Reg→Option (AV×List Reg)) (fun j0_63 j6_63 j7_63 rj_63=>
B2 (c (.fn 66) [j0_63,j6_63] rj_63) fun v64 r65=>
B2 (c (.fn 22) [j0_63] r65) fun v66 r67=>
Cd (W00 v66) (
B1 (W0a j0_63) fun v68=>
B1 (vfad 0 v68) fun v69=>
FL 0 v69 r67 fun v71=>
B1 (W0a j0_63) fun v72=>
B1 (vfad 0 v72) fun v73=>
B1 (vfad 1 v73) fun v74=>
L1 r67 v74 fun v75=>
B2 (c (.fn 82) [v71] r67) fun v76 r77=>
L1 r77 v74 fun v78=>
Sm v78 v75 (
B2 (c (.fn 83) [v75] r77) fun v79 r80=>
B2 (c (.fn 81) [v76,v79] r80) fun v81 r82=>
B2 (vapp r82 3 24 j7_63 v81) fun v83 r84=>
Fin z rg.length [v83,(Bo true)] r84)) (
Fin z rg.length [j7_63,(Bo true)] r67)) fun k_63=>
B1 (vbin .eql a1 v8) fun v85=>
Cd (W00 v85) (
B2 (c (.fn 79) [a0,v8] r62) fun v86 r87=>
k_63 a0 v8 v86 r87) (
B2 (c (.fn 80) [a0,v8] r62) fun v88 r89=>
k_63 a0 v8 v88 r89))))))))))))))))))
theorem S25:SE2 25 k25 s25:=fun _ _ _ _ _ _=>by kernel_rfl
def k26:KT:=(.n (.l [0]) (.n (.n (.l [0,4]) (.n (.n (.l [2]) (.l [])) (.l []))) (.n (.l [2]) (.l []))))
def s26:F1:=fun lp c z a0 rg=>
B2 (c (.fn 68) [a0] rg) fun v1 r2=>
Cd (W00 v1) (
Fin z rg.length [(I .i64 0)] r2) (
B1 (W0a a0) fun v3=>
FL 27 v3 r2 fun v5=>
B1 (vlen v5) fun v6=>
Fin z rg.length [v6] r2)
theorem S26:SE1 26 k26 s26:=fun _ _ _ _ _=>by kernel_rfl
def V7t:KT:=(.n (.n (.l [2,3,6,46]) (.n (.l []) (.l []))) (.n (.n (.l [2,3,6,60]) (.n (.n (.l [4]) (.l [])) (.l []))) (.l [2,3,6])))
def V7u:KT:=(.n (.n (.l [2,3,5,27]) (.n (.l []) (.l []))) (.n (.n (.l [2,3,5,41]) (.n (.n (.l [4]) (.l [])) (.l []))) (.l [2,3,5])))
def k35:KT:=(.n (.l [2,3]) (.n (.n (.l [2,3,22]) (.n (.n (.l [4]) (.l [])) (.l []))) (.n (.n (.l [2,3,5]) V7u) (.n (.n (.l [2,3,6]) V7t) (.n (.l [4]) (.l []))))))
def Wtf:FB:=fun lp c n0 s=>
FL 1 (s.g 2) s.regs fun v41=>
B1 (vlen v41) fun v42=>
B1 (vbin .lss (s.g 6) v42) fun v43=>
Cd (W00 v43) (
FL 1 (s.g 2) s.regs fun v45=>
B1 (vixs 1 (s.g 6) v45) fun v46=>
L1 s.regs v46 fun v47=>
FL 1 (s.g 3) s.regs fun v49=>
B1 (vixs 1 (s.g 6) v49) fun v50=>
L1 s.regs v50 fun v51=>
B2 (c (.fn 92) [v47,v51] s.regs) fun v52 r53=>
B1 (vun .not v52) fun v54=>
Cd (W00 v54) (
some (.ret,(⟨[(4,(Bo false))],r53⟩:St))) (
B1 (vbin .add (s.g 6) (I .i64 1)) fun v55=>
some (.normal,(⟨[(6,v55),(3,(s.g 3)),(2,(s.g 2))],r53⟩:St)))) (
some ((.exit 2),(⟨[(46,v43),(6,(s.g 6)),(3,(s.g 3)),(2,(s.g 2))],s.regs⟩:St)))
def Wtg:FB:=fun lp c n0 s=>
FL 0 (s.g 2) s.regs fun v21=>
B1 (vlen v21) fun v22=>
B1 (vbin .lss (s.g 5) v22) fun v23=>
Cd (W00 v23) (
FL 0 (s.g 2) s.regs fun v25=>
B1 (vixs 22 (s.g 5) v25) fun v26=>
B1 (W01 s.regs 22 true v26) fun v27=>
FL 0 (s.g 3) s.regs fun v29=>
B1 (vixs 22 (s.g 5) v29) fun v30=>
B1 (W01 s.regs 22 true v30) fun v31=>
B2 (c (.fn 91) [v27,v31] s.regs) fun v32 r33=>
B1 (vun .not v32) fun v34=>
Cd (W00 v34) (
some (.ret,(⟨[(4,(Bo false))],r33⟩:St))) (
B1 (vbin .add (s.g 5) (I .i64 1)) fun v35=>
some (.normal,(⟨[(5,v35),(3,(s.g 3)),(2,(s.g 2))],r33⟩:St)))) (
some ((.exit 0),(⟨[(27,v23),(5,(s.g 5)),(3,(s.g 3)),(2,(s.g 2))],s.regs⟩:St)))
def s35:F2:=fun lp c z a0 a1 rg=>
B2 (vbox a0 rg) fun v1 r2=>
B2 (vbox a1 r2) fun v3 r4=>
FL 0 v1 r4 fun v6=>
B1 (vlen v6) fun v7=>
FL 0 v3 r4 fun v9=>
B1 (vlen v9) fun v10=>
B1 (vbin .neq v7 v10) fun v11=>
B1 (Gv false v11 (vfad 1 v1)) fun v12=>
B1 (Gv false v11 (W01 r4 1 false v12)) fun v13=>
B1 (Gv false v11 (vlen v13)) fun v14=>
B1 (Gv false v11 (vfad 1 v3)) fun v15=>
B1 (Gv false v11 (W01 r4 1 false v15)) fun v16=>
B1 (Gv false v11 (vlen v16)) fun v17=>
B1 (Gv false v11 (vbin .neq v14 v17)) fun v18=>
B1 (W0c v11 (Bo true) v18) fun v19=>
Cd (W00 v19) (
Fin z rg.length [(Bo false)] r4) (
B3 (lp (Wtg lp c rg.length) (⟨[(5,(I .i64 0)),(3,v3),(2,v1)],r4⟩:St)) fun e36 s37=>X3 e36 (
none) (
Fin z rg.length [(lk s37.slots 4)] s37.regs) (fun i38=>
(bif Nat.beq i38 0 then (
B3 (lp (Wtf lp c rg.length) (⟨[(6,(I .i64 0)),(3,(s37.g 3)),(2,(s37.g 2))],s37.regs⟩:St)) fun e56 s57=>X3 e56 (
none) (
Fin z rg.length [(lk s57.slots 4)] s57.regs) (fun i58=>
(bif Nat.beq i58 2 then (
FL 2 (s57.g 2) s57.regs fun v61=>
FL 2 (s57.g 3) s57.regs fun v63=>
B2 (c (.fn 93) [v61,v63] s57.regs) fun v64 r65=>
B1 (Gv true v64 (vfad 3 (s57.g 2))) fun v66=>
B1 (Gv true v64 (W01 r65 1 false v66)) fun v67=>
B1 (Gv true v64 (vfad 3 (s57.g 3))) fun v68=>
B1 (Gv true v64 (W01 r65 1 false v68)) fun v69=>
B2 (Gr true v64 r65 (c (.fn 93) [v67,v69] r65)) fun v70 r71=>
B1 (W0c v64 v70 (Bo false)) fun v72=>
B1 (Gv true v72 (vfad 4 (s57.g 2))) fun v73=>
B1 (Gv true v72 (W01 r71 1 false v73)) fun v74=>
B1 (Gv true v72 (vfad 4 (s57.g 3))) fun v75=>
B1 (Gv true v72 (W01 r71 1 false v75)) fun v76=>
B2 (Gr true v72 r71 (c (.fn 94) [v74,v76] r71)) fun v77 r78=>
B1 (W0c v72 v77 (Bo false)) fun v79=>
B1 (Gv true v79 (vfad 5 (s57.g 2))) fun v80=>
B1 (Gv true v79 (W01 r78 1 false v80)) fun v81=>
B1 (Gv true v79 (vfad 5 (s57.g 3))) fun v82=>
B1 (Gv true v79 (W01 r78 1 false v82)) fun v83=>
B2 (Gr true v79 r78 (c (.fn 95) [v81,v83] r78)) fun v84 r85=>
B1 (W0c v79 v84 (Bo false)) fun v86=>
B1 (Gv true v86 (vfad 6 (s57.g 2))) fun v87=>
B1 (Gv true v86 (W01 r85 1 false v87)) fun v88=>
B1 (Gv true v86 (vfad 6 (s57.g 3))) fun v89=>
B1 (Gv true v86 (W01 r85 1 false v89)) fun v90=>
B1 (Gv true v86 (vbin .eql v88 v90)) fun v91=>
B1 (W0c v86 v91 (Bo false)) fun v92=>
B1 (Gv true v92 (vfad 7 (s57.g 2))) fun v93=>
B1 (Gv true v92 (W01 r85 1 false v93)) fun v94=>
B1 (Gv true v92 (vfad 7 (s57.g 3))) fun v95=>
B1 (Gv true v92 (W01 r85 1 false v95)) fun v96=>
B2 (Gr true v92 r85 (c (.fn 96) [v94,v96] r85)) fun v97 r98=>
B1 (W0c v92 v97 (Bo false)) fun v99=>
B1 (Gv true v99 (vfad 8 (s57.g 2))) fun v100=>
B1 (Gv true v99 (W01 r98 1 false v100)) fun v101=>
B1 (Gv true v99 (vfad 8 (s57.g 3))) fun v102=>
B1 (Gv true v99 (W01 r98 1 false v102)) fun v103=>
B2 (Gr true v99 r98 (c (.fn 96) [v101,v103] r98)) fun v104 r105=>
B1 (W0c v99 v104 (Bo false)) fun v106=>
Fin z rg.length [v106] r105)else (
none))))else (
none))))
theorem S35:SE2 35 k35 s35:=fun _ _ _ _ _ _=>by kernel_rfl
def V7v:KT:=(.n (.n (.l [1,4,5,61]) (.n (.l []) (.l []))) (.n (.n (.l [1,4,5,6]) (.n (.l [1,4,5,6,81]) (.n (.n (.l [2]) (.l [])) (.l [])))) (.l [1,4,5])))
def V7w:KT:=(.n (.n (.l [1,4,51]) (.n (.l []) (.l []))) (.n (.n (.l [1,4,5]) V7v) (.l [1,4])))
def V7x:KT:=(.n (.n (.l [1,3,37]) (.n (.l []) (.l []))) (.n (.n (.l [1,3,46]) (.n (.n (.l [2]) (.l [])) (.l []))) (.l [1,3])))
def k36:KT:=(.n (.l [1]) (.n (.n (.l [1,22]) (.n (.n (.l [2]) (.l [])) (.l []))) (.n (.n (.l [1,32]) (.n (.n (.l [2]) (.l [])) (.l []))) (.n (.n (.l [1,3]) V7x) (.n (.n (.l [1,4]) V7w) (.n (.l [2]) (.l [])))))))
def Wks:FB:=fun lp c n0 s=>
FL 3 (s.g 1) s.regs fun v49=>
B1 (vixs 1 (s.g 4) v49) fun v50=>
L1 s.regs v50 fun v51=>
B1 (vlen v51) fun v52=>
B1 (vbin .lss (s.g 5) v52) fun v53=>
Cd (W00 v53) (
FL 3 (s.g 1) s.regs fun v55=>
B1 (vixs 1 (s.g 4) v55) fun v56=>
L1 s.regs v56 fun v57=>
B1 (vixs 5 (s.g 5) v57) fun v58=>
B1 (W01 s.regs 5 true v58) fun v59=>
B1 (W01 s.regs 4 true (s.g 1)) fun v60=>
FL 3 (s.g 1) s.regs fun v62=>
B1 (vixs 1 (s.g 4) v62) fun v63=>
L1 s.regs v63 fun v64=>
B1 (vlen v64) fun v65=>
B2 (c (.fn 98) [v59,v60,v65] s.regs) fun v66 r67=>
B1 (vbin .neq v66 (I .i64 0)) fun v68=>
Cd (W00 v68) (
some (.ret,(⟨[(2,v66)],r67⟩:St))) (
B1 (vbin .add (s.g 5) (I .i64 1)) fun v69=>
some (.normal,(⟨[(5,v69),(4,(s.g 4)),(1,(s.g 1))],r67⟩:St)))) (
some ((.exit 4),(⟨[(61,v53),(5,(s.g 5)),(4,(s.g 4)),(1,(s.g 1))],s.regs⟩:St)))
def Wkt:FB:=fun lp c n0 s=>
FL 3 (s.g 1) s.regs fun v45=>
B1 (vlen v45) fun v46=>
B1 (vbin .lss (s.g 4) v46) fun v47=>
Cd (W00 v47) (
B3 (lp (Wks lp c n0) (⟨[(5,(I .i64 0)),(4,(s.g 4)),(1,(s.g 1))],s.regs⟩:St)) fun e70 s71=>X3 e70 (
none) (
some (.ret,s71)) (fun i72=>
(bif Nat.beq i72 4 then (
B1 (vbin .add (s71.g 4) (I .i64 1)) fun v74=>
some (.normal,(⟨[(4,v74),(1,(s71.g 1))],s71.regs⟩:St)))else (
(bif Nat.beq i72 3 then (
B1 (vbin .add (s71.g 4) (I .i64 1)) fun v75=>
some (.normal,(⟨[(4,v75),(1,(s71.g 1))],s71.regs⟩:St)))else (
some ((.exit i72),s71))))))) (
some ((.exit 2),(⟨[(51,v47),(4,(s.g 4)),(1,(s.g 1))],s.regs⟩:St)))
def Wku:FB:=fun lp c n0 s=>
FL 3 (s.g 1) s.regs fun v30=>
B1 (vlen v30) fun v31=>
B1 (vbin .lss (s.g 3) v31) fun v32=>
Cd (W00 v32) (
FL 3 (s.g 1) s.regs fun v34=>
B1 (vixs 1 (s.g 3) v34) fun v35=>
L1 s.regs v35 fun v36=>
B1 (vlen v36) fun v37=>
B1 (vbin .gtr v37 (I .i64 16)) fun v38=>
Cd (W00 v38) (
some (.ret,(⟨[(2,(I .i64 4))],s.regs⟩:St))) (
B1 (vbin .add (s.g 3) (I .i64 1)) fun v39=>
some (.normal,(⟨[(3,v39),(1,(s.g 1))],s.regs⟩:St)))) (
some ((.exit 0),(⟨[(37,v32),(3,(s.g 3)),(1,(s.g 1))],s.regs⟩:St)))
def s36:F1:=fun lp c z a0 rg=>
B2 (vbox a0 rg) fun v1 r2=>
FL 0 v1 r2 fun v4=>
B2 (c (.fn 97) [v4,(I .i64 4)] r2) fun v5 r6=>
B1 (vun .not v5) fun v7=>
B1 (Gv false v7 (vfad 1 v1)) fun v8=>
B1 (Gv false v7 (W01 r6 1 false v8)) fun v9=>
B2 (Gr false v7 r6 (c (.fn 97) [v9,(I .i64 6)] r6)) fun v10 r11=>
B1 (Gv false v7 (vun .not v10)) fun v12=>
B1 (W0c v7 (Bo true) v12) fun v13=>
B1 (Gv false v13 (vfad 2 v1)) fun v14=>
B1 (Gv false v13 (W01 r11 1 false v14)) fun v15=>
B2 (Gr false v13 r11 (c (.fn 97) [v15,(I .i64 2)] r11)) fun v16 r17=>
B1 (Gv false v13 (vun .not v16)) fun v18=>
B1 (W0c v13 (Bo true) v18) fun v19=>
Cd (W00 v19) (
Fin z rg.length [(I .i64 3)] r17) (
FL 3 v1 r17 fun v21=>
B1 (vlen v21) fun v22=>
B1 (vbin .lss v22 (I .i64 1)) fun v23=>
B1 (Gv false v23 (vfad 3 v1)) fun v24=>
B1 (Gv false v23 (W01 r17 1 false v24)) fun v25=>
B1 (Gv false v23 (vlen v25)) fun v26=>
B1 (Gv false v23 (vbin .gtr v26 (I .i64 4))) fun v27=>
B1 (W0c v23 (Bo true) v27) fun v28=>
Cd (W00 v28) (
Fin z rg.length [(I .i64 4)] r17) (
B3 (lp (Wku lp c rg.length) (⟨[(3,(I .i64 0)),(1,v1)],r17⟩:St)) fun e40 s41=>X3 e40 (
none) (
Fin z rg.length [(lk s41.slots 2)] s41.regs) (fun i42=>
(bif Nat.beq i42 0 then (
B3 (lp (Wkt lp c rg.length) (⟨[(4,(I .i64 0)),(1,(s41.g 1))],s41.regs⟩:St)) fun e76 s77=>X3 e76 (
none) (
Fin z rg.length [(lk s77.slots 2)] s77.regs) (fun i78=>
(bif Nat.beq i78 2 then (
Fin z rg.length [(I .i64 0)] s77.regs)else (
none))))else (
none)))))
theorem S36:SE1 36 k36 s36:=fun _ _ _ _ _=>by kernel_rfl
def k37:KT:=(.n (.l [1]) (.n (.l [2]) (.l [])))
def s37:F1:=fun lp c z a0 rg=>
B2 (vbox a0 rg) fun v1 r2=>
FL 0 v1 r2 fun v4=>
B2 (c (.fn 99) [v4,(I .i64 0),(I .i64 3)] r2) fun v5 r6=>
B1 (Gv true v5 (vfad 1 v1)) fun v7=>
B1 (Gv true v5 (W01 r6 1 false v7)) fun v8=>
B2 (Gr true v5 r6 (c (.fn 99) [v8,(I .i64 0),(I .i64 1)] r6)) fun v9 r10=>
B1 (W0c v5 v9 (Bo false)) fun v11=>
B1 (Gv true v11 (vfad 2 v1)) fun v12=>
B1 (Gv true v11 (W01 r10 1 false v12)) fun v13=>
B2 (Gr true v11 r10 (c (.fn 99) [v13,(I .i64 1),(I .i64 8)] r10)) fun v14 r15=>
B1 (W0c v11 v14 (Bo false)) fun v16=>
B1 (Gv true v16 (vfad 3 v1)) fun v17=>
B1 (Gv true v16 (W01 r15 1 false v17)) fun v18=>
B2 (Gr true v16 r15 (c (.fn 99) [v18,(I .i64 0),(I .i64 16)] r15)) fun v19 r20=>
B1 (W0c v16 v19 (Bo false)) fun v21=>
B1 (Gv true v21 (vfad 4 v1)) fun v22=>
B1 (Gv true v21 (W01 r20 1 false v22)) fun v23=>
B2 (Gr true v21 r20 (c (.fn 99) [v23,(I .i64 1),(I .i64 4)] r20)) fun v24 r25=>
B1 (W0c v21 v24 (Bo false)) fun v26=>
Fin z rg.length [v26] r25
theorem S37:SE1 37 k37 s37:=fun _ _ _ _ _=>by kernel_rfl
def V7y:KT:=(.n (.n (.l [0,6,7,8,11,12,50]) (.n (.l []) (.l []))) (.n (.n (.l [0,6,7,8,11,12,61]) (.n (.n (.l [10]) (.l [])) (.l []))) (.l [0,6,7,8,11,12])))
def k38:KT:=(.n (.l [0,4,6,7,8]) (.n (.l [0,4,6,7,8,11]) (.n (.n (.l [0,6,7,8,11,47]) (.n (.n (.l [10]) (.l [])) (.l []))) (.n (.n (.l [0,6,7,8,11,12]) V7y) (.n (.l [10]) (.l []))))))
def Wth:FB:=fun lp c n0 s=>
B1 (vbin .leq (s.g 12) (s.g 11)) fun v49=>
Cd (W00 v49) (
B1 (W01 s.regs 4 true (s.g 6)) fun v50=>
B1 (W01 s.regs 5 true (s.g 7)) fun v51=>
B1 (W01 s.regs 9 true (s.g 8)) fun v52=>
B2 (c (.fn 24) [(s.g 0),(s.g 12)] s.regs) fun v53 r54=>
B1 (W01 r54 4 true (s.g 6)) fun v55=>
Sm v55 v50 (
B1 (W01 r54 5 true (s.g 7)) fun v56=>
Sm v56 v51 (
B1 (W01 r54 9 true (s.g 8)) fun v57=>
Sm v57 v52 (
B2 (c (.fn 40) [v50,v51,v52,(s.g 12)] r54) fun v58 r59=>
B1 (vbeq true v53 v58) fun v60=>
Cd (W00 v60) (
some (.ret,(⟨[(10,(Bo false))],r59⟩:St))) (
B1 (vbin .add (s.g 12) (I .i64 1)) fun v61=>
some (.normal,(⟨[(12,v61),(11,(s.g 11)),(8,(s.g 8)),(7,(s.g 7)),(6,(s.g 6)),(0,(s.g 0))],r59⟩:St))))))) (
some ((.exit 0),(⟨[(50,v49),(12,(s.g 12)),(11,(s.g 11)),(8,(s.g 8)),(7,(s.g 7)),(6,(s.g 6)),(0,(s.g 0))],s.regs⟩:St)))
def s38:F5:=fun lp c z a0 a1 a2 a3 a4 rg=>
B2 (vbox a1 rg) fun v1 r2=>
B2 (vbox a2 r2) fun v3 r4=>
B2 (vbox a3 r4) fun v5 r6=>
B1 (W01 r6 4 true v1) fun v7=>
B1 (W01 r6 5 true v3) fun v8=>
B2 (c (.fn 21) [v7,v8] r6) fun v9 r10=>
B2 (c (.fn 53) [a0] r10) fun v11 r12=>
B1 (vbin .neq v11 v9) fun v13=>
B1 (Gv false v13 (some a0)) fun v14=>
B1 (Gv false v13 (W01 r12 4 true v1)) fun v15=>
B1 (Gv false v13 (W01 r12 9 true v5)) fun v16=>
B2 (Gr false v13 r12 (c (.fn 22) [v14] r12)) fun v17 r18=>
B1 (Gv false v13 (W01 r18 4 true v1)) fun v19=>
Sm v19 v15 (
B1 (Gv false v13 (W01 r18 9 true v5)) fun v20=>
Sm v20 v16 (
B2 (Gr false v13 r18 (c (.fn 100) [v15,v16] r18)) fun v21 r22=>
B1 (Gv false v13 (vbeq true v17 v21)) fun v23=>
B1 (W0c v13 (Bo true) v23) fun v24=>
B1 (Gv false v24 (some a0)) fun v25=>
B1 (Gv false v24 (some a4)) fun v26=>
B2 (Gr false v24 r22 (c (.fn 26) [v25] r22)) fun v27 r28=>
B1 (Gv false v24 (vbin .neq v27 v26)) fun v29=>
B1 (W0c v24 (Bo true) v29) fun v30=>
B1 (Gv false v30 (some a0)) fun v31=>
B1 (Gv false v30 (W01 r28 9 true v5)) fun v32=>
B2 (Gr false v30 r28 (c (.fn 43) [v31] r28)) fun v33 r34=>
B1 (Gv false v30 (W01 r34 9 true v5)) fun v35=>
Sm v35 v32 (
B2 (Gr false v30 r34 (c (.fn 35) [v33,v32] r34)) fun v36 r37=>
B1 (Gv false v30 (vun .not v36)) fun v38=>
B1 (W0c v30 (Bo true) v38) fun v39=>
B1 (Gv false v39 (some a0)) fun v40=>
B1 (Gv false v39 (W01 r37 9 true v5)) fun v41=>
B2 (Gr false v39 r37 (c (.fn 52) [v40] r37)) fun v42 r43=>
B1 (Gv false v39 (W01 r43 9 true v5)) fun v44=>
Sm v44 v41 (
B2 (Gr false v39 r43 (c (.fn 101) [v41] r43)) fun v45 r46=>
B1 (Gv false v39 (vbin .neq v42 v45)) fun v47=>
B1 (W0c v39 (Bo true) v47) fun v48=>
Cd (W00 v48) (
Fin z rg.length [(Bo false)] r46) (
B3 (lp (Wth lp c rg.length) (⟨[(12,(I .i64 (-1))),(11,v9),(8,v5),(7,v3),(6,v1),(0,a0)],r46⟩:St)) fun e62 s63=>X3 e62 (
none) (
Fin z rg.length [(lk s63.slots 10)] s63.regs) (fun i64=>
(bif Nat.beq i64 0 then (
Fin z rg.length [(Bo true)] s63.regs)else (
none))))))))
theorem S38:SE5 38 k38 s38:=fun _ _ _ _ _ _ _ _ _=>by kernel_rfl
def V7z:KT:=(.n (.n (.l [2,3,4,5,8,9,64]) (.n (.l []) (.l []))) (.n (.l [2,3,4,5,8,9]) (.l [2,3,4,5,8,9])))
def V80:KT:=(.n (.n (.l [2,3,4,5,8,35]) (.n (.l []) (.l []))) (.n (.n (.l [2,3,4,5,8]) (.n (.l [2,3,4,5,8]) (.n (.l [2,3,4,5,8]) (.n (.l [2,3,4,5,8]) (.n (.l [2,3,4,5,8,9]) V7z))))) (.l [2,3,4,5,8])))
def V81:KT:=(.n (.n (.l [2,3,4,5,7,22]) (.n (.l []) (.l []))) (.n (.l [2,3,4,5,7]) (.l [2,3,4,5,7])))
def k39:KT:=(.n (.l [2,3,4]) (.n (.l [2,3,4,5]) (.n (.l [2,3,4,5,6]) (.n (.l [2,3,4,5,6]) (.n (.l [2,3,4,5]) (.n (.n (.l [2,3,4,5,7]) V81) (.n (.n (.l [2,3,4,5,8]) V80) (.n (.l [4]) (.l [])))))))))
def Wpl:FB:=fun lp c n0 s=>
FL 2 (s.g 2) s.regs fun v81=>
B1 (vbin .lss (s.g 9) v81) fun v82=>
Cd (W00 v82) (
FL 3 (s.g 5) s.regs fun v84=>
B1 (W06 [(.int .i64 0),(.int .i64 0),(.int .i64 0)] []) fun v85=>
B2 (W0x s.regs 3 1 [(.int .i64 0),(.int .i64 0),(.int .i64 0)] [(0,v85)]) fun v86 r87=>
B2 (vapp r87 3 24 v84 v86) fun v88 r89=>
B1 (vfad 3 (s.g 5)) fun v90=>
B0 (W03 r89 1 v90 v88) fun r91=>
B1 (vbin .add (s.g 9) (I .i64 1)) fun v92=>
some (.normal,(⟨[(9,v92),(8,(s.g 8)),(5,(s.g 5)),(4,(s.g 4)),(3,(s.g 3)),(2,(s.g 2))],r91⟩:St))) (
some ((.exit 4),(⟨[(64,v82),(9,(s.g 9)),(8,(s.g 8)),(5,(s.g 5)),(4,(s.g 4)),(3,(s.g 3)),(2,(s.g 2))],s.regs⟩:St)))
def Wpm:FB:=fun lp c n0 s=>
FL 3 (s.g 2) s.regs fun v42=>
B1 (vlen v42) fun v43=>
B1 (vbin .lss (s.g 8) v43) fun v44=>
Cd (W00 v44) (
FL 0 (s.g 5) s.regs fun v46=>
FL 3 (s.g 3) s.regs fun v48=>
B1 (W06 [(.int .i64 0),(.int .i64 0),(.int .i64 0),(.int .i64 0),(.int .i64 0),(.int .i64 0),(.int .i64 0),(.int .i64 0),(.int .i64 0),(.int .i64 0),(.int .i64 0),(.int .i64 0),(.int .i64 0),(.int .i64 0),(.int .i64 0),(.int .i64 0),(.int .i64 0),(.int .i64 0),(.slice none 0 0),(.slice none 0 0),(.slice none 0 0),(.int .i64 0)] [(1,1,v48)]) fun v49=>
B2 (W0x s.regs 22 1 [(.int .i64 0),(.int .i64 0),(.int .i64 0),(.int .i64 0),(.int .i64 0),(.int .i64 0),(.int .i64 0),(.int .i64 0),(.int .i64 0),(.int .i64 0),(.int .i64 0),(.int .i64 0),(.int .i64 0),(.int .i64 0),(.int .i64 0),(.int .i64 0),(.int .i64 0),(.int .i64 0),(.slice none 0 0),(.slice none 0 0),(.slice none 0 0),(.int .i64 0)] [(0,v49)]) fun v50 r51=>
B2 (vapp r51 22 224 v46 v50) fun v52 r53=>
B1 (vfad 0 (s.g 5)) fun v54=>
B0 (W03 r53 1 v54 v52) fun r55=>
FL 1 (s.g 5) r55 fun v57=>
B2 (W0x r55 1 1 [(.slice none 0 0)] [(0,(AV.c (.p (.v (.slice none 0 0)))))]) fun v58 r59=>
B2 (vapp r59 1 24 v57 v58) fun v60 r61=>
B1 (vfad 1 (s.g 5)) fun v62=>
B0 (W03 r61 1 v62 v60) fun r63=>
FL 7 (s.g 5) r63 fun v65=>
B2 (W0x r63 1 1 [(.int .i64 0)] [(0,(I .i64 0))]) fun v66 r67=>
B2 (vapp r67 1 8 v65 v66) fun v68 r69=>
B1 (vfad 7 (s.g 5)) fun v70=>
B0 (W03 r69 1 v70 v68) fun r71=>
FL 8 (s.g 5) r71 fun v73=>
B2 (W0x r71 1 1 [(.int .i64 0)] [(0,(I .i64 0))]) fun v74 r75=>
B2 (vapp r75 1 8 v73 v74) fun v76 r77=>
B1 (vfad 8 (s.g 5)) fun v78=>
B0 (W03 r77 1 v78 v76) fun r79=>
B3 (lp (Wpl lp c n0) (⟨[(9,(I .i64 0)),(8,(s.g 8)),(5,(s.g 5)),(4,(s.g 4)),(3,(s.g 3)),(2,(s.g 2))],r79⟩:St)) fun e93 s94=>X3 e93 (
none) (
some (.ret,s94)) (fun i95=>
(bif Nat.beq i95 4 then (
B1 (vbin .add (s94.g 8) (I .i64 1)) fun v97=>
some (.normal,(⟨[(8,v97),(5,(s94.g 5)),(4,(s94.g 4)),(3,(s94.g 3)),(2,(s94.g 2))],s94.regs⟩:St)))else (
(bif Nat.beq i95 3 then (
B1 (vbin .add (s94.g 8) (I .i64 1)) fun v98=>
some (.normal,(⟨[(8,v98),(5,(s94.g 5)),(4,(s94.g 4)),(3,(s94.g 3)),(2,(s94.g 2))],s94.regs⟩:St)))else (
some ((.exit i95),s94))))))) (
some ((.exit 2),(⟨[(35,v44),(8,(s.g 8)),(5,(s.g 5)),(4,(s.g 4)),(3,(s.g 3)),(2,(s.g 2))],s.regs⟩:St)))
def Wpn:FB:=fun lp c n0 s=>
FL 0 (s.g 2) s.regs fun v25=>
B1 (vbin .lss (s.g 7) v25) fun v26=>
Cd (W00 v26) (
FL 2 (s.g 5) s.regs fun v28=>
B1 (W06 [(.int .i64 0),(.int .i64 0),(.int .i64 0)] []) fun v29=>
B2 (W0x s.regs 3 1 [(.int .i64 0),(.int .i64 0),(.int .i64 0)] [(0,v29)]) fun v30 r31=>
B2 (vapp r31 3 24 v28 v30) fun v32 r33=>
B1 (vfad 2 (s.g 5)) fun v34=>
B0 (W03 r33 1 v34 v32) fun r35=>
B1 (vbin .add (s.g 7) (I .i64 1)) fun v36=>
some (.normal,(⟨[(7,v36),(5,(s.g 5)),(4,(s.g 4)),(3,(s.g 3)),(2,(s.g 2))],r35⟩:St))) (
some ((.exit 0),(⟨[(22,v26),(7,(s.g 7)),(5,(s.g 5)),(4,(s.g 4)),(3,(s.g 3)),(2,(s.g 2))],s.regs⟩:St)))
def s39:F2:=fun lp c z a0 a1 rg=>
B2 (vbox a0 rg) fun v1 r2=>
B2 (vbox a1 r2) fun v3 r4=>
B2 (W08 [(.slice none 0 0),(.slice none 0 0),(.slice none 0 0),(.slice none 0 0),(.slice none 0 0),(.slice none 0 0),(.int .i64 0),(.slice none 0 0),(.slice none 0 0)] r4) fun v5 r6=>
B2 (W08 [(.slice none 0 0),(.slice none 0 0),(.slice none 0 0),(.slice none 0 0),(.slice none 0 0),(.slice none 0 0),(.int .i64 0),(.slice none 0 0),(.slice none 0 0)] r6) fun v7 r8=>
FL 1 v1 r8 fun v10=>
B2 (c (.fn 102) [v10] r8) fun v11 r12=>
B2 (W08 [(.slice none 0 0),(.slice none 0 0)] r12) fun v13 r14=>
B0 (W03 r14 2 v13 v11) fun r15=>
FL 0 v13 r15 fun v17=>
B1 (vfad 4 v7) fun v18=>
B0 (W03 r15 1 v18 v17) fun r19=>
FL 1 v13 r19 fun v21=>
B1 (vfad 5 v7) fun v22=>
B0 (W03 r19 1 v22 v21) fun r23=>
B3 (lp (Wpn lp c rg.length) (⟨[(7,(I .i64 0)),(5,v7),(4,v5),(3,v3),(2,v1)],r23⟩:St)) fun e37 s38=>X3 e37 (
none) (
Rc z rg.length (cons? (W0q (lk s38.slots 4) s38.regs 9 true) (some [])) s38.regs) (fun i39=>
(bif Nat.beq i39 0 then (
B3 (lp (Wpm lp c rg.length) (⟨[(8,(I .i64 0)),(5,(s38.g 5)),(4,(s38.g 4)),(3,(s38.g 3)),(2,(s38.g 2))],s38.regs⟩:St)) fun e99 s100=>X3 e99 (
none) (
Rc z rg.length (cons? (W0q (lk s100.slots 4) s100.regs 9 true) (some [])) s100.regs) (fun i101=>
(bif Nat.beq i101 2 then (
B1 (W01 s100.regs 9 true (s100.g 5)) fun v103=>
B0 (W03 s100.regs 9 (s100.g 4) v103) fun r104=>
Rc z rg.length (cons? (W0q (s100.g 4) r104 9 true) (some [])) r104)else (
none))))else (
none)))
theorem S39:SE2 39 k39 s39:=fun _ _ _ _ _ _=>by kernel_rfl
def k40:KT:=(.n (.l [3,4,5,6]) (.n (.l [3,4,5,6,9]) (.n (.n (.l [3,4,5,6,9,16]) (.n (.n (.l [8]) (.l [])) (.l []))) (.n (.n (.l [3,4,5,6,51]) (.n (.n (.l [8]) (.l [])) (.l []))) (.n (.n (.l [3,4,5,6,54]) (.n (.n (.l [8]) (.l [])) (.l []))) (.n (.l [3,4,6,10]) (.n (.l [8]) (.l []))))))))
def s40:F4:=fun lp c z a0 a1 a2 a3 rg=>
B2 (vbox a0 rg) fun v1 r2=>
B2 (vbox a1 r2) fun v3 r4=>
B2 (vbox a2 r4) fun v5 r6=>
FL 3 v1 r6 fun v8=>
B1 (vlen v8) fun v9=>
B1 (vbin .geq a3 v9) fun v10=>
Cd (W00 v10) (
FL 1 v3 r6 fun v12=>
B1 (vbin .eql v12 (I .i64 1)) fun v13=>
B1 (Gv true v13 (some a3)) fun v14=>
B1 (Gv true v13 (some v9)) fun v15=>
B1 (Gv true v13 (vbin .mul (I .i64 2) v15)) fun v16=>
B1 (Gv true v13 (vbin .lss v14 v16)) fun v17=>
B1 (W0c v13 v17 (Bo false)) fun v18=>
B1 (Gv true v18 (vfad 1 v5)) fun v19=>
B1 (Gv true v18 (W01 r6 1 false v19)) fun v20=>
B1 (Gv true v18 (some a3)) fun v21=>
B1 (Gv true v18 (some v9)) fun v22=>
B1 (Gv true v18 (vbin .sub v21 v22)) fun v23=>
B1 (Gv true v18 (vixs 1 v23 v20)) fun v24=>
B1 (Gv true v18 (W01 r6 1 false v24)) fun v25=>
B1 (Gv true v18 (vlen v25)) fun v26=>
B1 (Gv true v18 (vbin .gtr v26 (I .i64 0))) fun v27=>
B1 (W0c v18 v27 (Bo false)) fun v28=>
Fin z rg.length [v28] r6) (
B1 (vbin .lss a3 (I .i64 0)) fun v29=>
B1 (Gv false v29 (vfad 0 v5)) fun v30=>
B1 (Gv false v29 (W01 r6 1 false v30)) fun v31=>
B1 (Gv false v29 (some a3)) fun v32=>
B1 (Gv false v29 (vixs 22 v32 v31)) fun v33=>
B1 (Gv false v29 (W01 r6 22 true v33)) fun v34=>
B1 (Gv false v29 (vfad 3 v1)) fun v35=>
B1 (Gv false v29 (W01 r6 1 false v35)) fun v36=>
B1 (Gv false v29 (some a3)) fun v37=>
B1 (Gv false v29 (vixs 1 v37 v36)) fun v38=>
B1 (Gv false v29 (W01 r6 1 false v38)) fun v39=>
B2 (Gr false v29 r6 (c (.fn 103) [v34,v39] r6)) fun v40 r41=>
B1 (W0c v29 (Bo true) v40) fun v42=>
Cd (W00 v42) (
Fin z rg.length [(Bo false)] r41) (
FL 1 v3 r41 fun v44=>
B1 (vbin .eql v44 (I .i64 0)) fun v45=>
Cd (W00 v45) (
Fin z rg.length [(Bo true)] r41) (
FL 1 v5 r41 fun v47=>
B1 (vixs 1 a3 v47) fun v48=>
L1 r41 v48 fun v49=>
B1 (vlen v49) fun v50=>
FL 4 v3 r41 fun v52=>
B1 (vbin .geq v50 v52) fun v53=>
B1 (W01 r41 4 true v1) fun v54=>
B1 (W01 r41 9 true v5) fun v55=>
B2 (c (.fn 104) [v54,v55,a3] r41) fun v56 r57=>
B1 (Gv true v56 (some v53)) fun v58=>
B1 (W0c v56 v58 (Bo false)) fun v59=>
B1 (vun .not v59) fun v60=>
B1 (Gv true v60 (W01 r57 4 true v1)) fun v61=>
B1 (Gv true v60 (W01 r57 9 true v5)) fun v62=>
B1 (Gv true v60 (some a3)) fun v63=>
B2 (Gr true v60 r57 (c (.fn 105) [v61,v62,v63] r57)) fun v64 r65=>
B1 (Gv true v60 (some v64)) fun v66=>
B1 (Gv true v66 (vfad 1 v5)) fun v67=>
B1 (Gv true v66 (W01 r65 1 false v67)) fun v68=>
B1 (Gv true v66 (some a3)) fun v69=>
B1 (Gv true v66 (vixs 1 v69 v68)) fun v70=>
B1 (Gv true v66 (W01 r65 1 false v70)) fun v71=>
B1 (Gv true v66 (vlen v71)) fun v72=>
B1 (Gv true v66 (vbin .gtr v72 (I .i64 0))) fun v73=>
B1 (Gv true v60 (W0c v66 v73 (Bo false))) fun v74=>
B1 (Gv true v60 (vun .not v74)) fun v75=>
B1 (W0c v60 v75 (Bo false)) fun v76=>
Fin z rg.length [v76] r65)))
theorem S40:SE4 40 k40 s40:=fun _ _ _ _ _ _ _ _=>by kernel_rfl
def V82:KT:=(.n (.l [0,2,3,14,15,16,17]) (.n (.n (.l []) (.l [])) (.n (.n (.l [0,2,3,4,5,14,15,16]) (.n (.l [0,2,3,4,14,15,16]) (.l [0,2,3,14,15,16]))) (.l [0,2,3,14,15,16]))))
def k43:KT:=(.n (.l [0,2]) (.n (.n (.l [0,2,7]) (.n (.n (.l [2]) (.l [])) (.l []))) (.n (.l [0,2,3]) (.n (.n (.l [0,2,3,14,15,16]) V82) (.n (.l [2]) (.l []))))))
def Wpo:FB:=fun lp c n0 s=>
B1 (vbin .lss (s.g 16) (s.g 15)) fun v16=>
Cd (W00 v16) (
B1 (vixs 22 (s.g 16) (s.g 14)) fun v17=>
B1 (W01 s.regs 22 true v17) fun v18=>
B2 (W08 [(.int .i64 0),(.int .i64 0),(.int .i64 0),(.int .i64 0),(.int .i64 0),(.int .i64 0),(.int .i64 0),(.int .i64 0),(.int .i64 0),(.int .i64 0),(.int .i64 0),(.int .i64 0),(.int .i64 0),(.int .i64 0),(.int .i64 0),(.int .i64 0),(.int .i64 0),(.int .i64 0),(.slice none 0 0),(.slice none 0 0),(.slice none 0 0),(.int .i64 0)] s.regs) fun v19 r20=>
B0 (W03 r20 22 v19 v18) fun r21=>
B1 (vfad 0 (s.g 3)) fun v22=>
L1 r21 v22 fun v23=>
B1 (W01 r21 22 true v19) fun v24=>
B2 (c (.fn 111) [v24] r21) fun v25 r26=>
L1 r26 v22 fun v27=>
Sm v27 v23 (
B2 (W0x r26 22 1 [(.int .i64 0),(.int .i64 0),(.int .i64 0),(.int .i64 0),(.int .i64 0),(.int .i64 0),(.int .i64 0),(.int .i64 0),(.int .i64 0),(.int .i64 0),(.int .i64 0),(.int .i64 0),(.int .i64 0),(.int .i64 0),(.int .i64 0),(.int .i64 0),(.int .i64 0),(.int .i64 0),(.slice none 0 0),(.slice none 0 0),(.slice none 0 0),(.int .i64 0)] [(0,v25)]) fun v28 r29=>
L1 r29 v22 fun v30=>
Sm v30 v23 (
B2 (vapp r29 22 224 v23 v28) fun v31 r32=>
B1 (vfad 0 (s.g 3)) fun v33=>
B0 (W03 r32 1 v33 v31) fun r34=>
B1 (vfad 1 (s.g 3)) fun v35=>
L1 r34 v35 fun v36=>
B1 (W0a (s.g 0)) fun v37=>
FL 26 v37 r34 fun v39=>
B1 (vixs 1 (s.g 16) v39) fun v40=>
L1 r34 v40 fun v41=>
B2 (c (.fn 112) [v41] r34) fun v42 r43=>
L1 r43 v35 fun v44=>
Sm v44 v36 (
B2 (W0x r43 1 1 [(.slice none 0 0)] [(0,v42)]) fun v45 r46=>
L1 r46 v35 fun v47=>
Sm v47 v36 (
B2 (vapp r46 1 24 v36 v45) fun v48 r49=>
B1 (vfad 1 (s.g 3)) fun v50=>
B0 (W03 r49 1 v50 v48) fun r51=>
B1 (vbin .add (s.g 16) (I .i64 1)) fun v52=>
some (.normal,(⟨[(16,v52),(15,(s.g 15)),(14,(s.g 14)),(3,(s.g 3)),(2,(s.g 2)),(0,(s.g 0))],r51⟩:St))))))) (
some ((.exit 0),(⟨[(17,v16),(16,(s.g 16)),(15,(s.g 15)),(14,(s.g 14)),(3,(s.g 3)),(2,(s.g 2)),(0,(s.g 0))],s.regs⟩:St)))
def s43:F1:=fun lp c z a0 rg=>
B2 (W08 [(.slice none 0 0),(.slice none 0 0),(.slice none 0 0),(.slice none 0 0),(.slice none 0 0),(.slice none 0 0),(.int .i64 0),(.slice none 0 0),(.slice none 0 0)] rg) fun v1 r2=>
B2 (c (.fn 68) [a0] r2) fun v3 r4=>
Cd (W00 v3) (
B1 (W06 [(.slice none 0 0),(.slice none 0 0),(.slice none 0 0),(.slice none 0 0),(.slice none 0 0),(.slice none 0 0),(.int .i64 0),(.slice none 0 0),(.slice none 0 0)] []) fun v5=>
B0 (W03 r4 9 v1 v5) fun r6=>
Rc z rg.length (cons? (W0q v1 r6 9 true) (some [])) r6) (
B2 (c (.fn 110) [a0] r4) fun v7 r8=>
B2 (W08 [(.slice none 0 0),(.slice none 0 0),(.slice none 0 0),(.slice none 0 0),(.slice none 0 0),(.slice none 0 0),(.int .i64 0),(.slice none 0 0),(.slice none 0 0)] r8) fun v9 r10=>
B0 (W03 r10 9 v9 v7) fun r11=>
B1 (W0a a0) fun v12=>
FL 25 v12 r11 fun v14=>
B1 (vlen v14) fun v15=>
B3 (lp (Wpo lp c rg.length) (⟨[(16,(I .i64 0)),(15,v15),(14,v14),(3,v9),(2,v1),(0,a0)],r11⟩:St)) fun e53 s54=>X3 e53 (
none) (
Rc z rg.length (cons? (W0q (lk s54.slots 2) s54.regs 9 true) (some [])) s54.regs) (fun i55=>
(bif Nat.beq i55 0 then (
B1 (W01 s54.regs 9 true (s54.g 3)) fun v57=>
B0 (W03 s54.regs 9 (s54.g 2) v57) fun r58=>
Rc z rg.length (cons? (W0q (s54.g 2) r58 9 true) (some [])) r58)else (
none))))
theorem S43:SE1 43 k43 s43:=fun _ _ _ _ _=>by kernel_rfl
def k52:KT:=(.n (.l [0]) (.n (.n (.l [0,4]) (.n (.n (.l [2]) (.l [])) (.l []))) (.n (.l [2]) (.l []))))
def s52:F1:=fun lp c z a0 rg=>
B2 (c (.fn 68) [a0] rg) fun v1 r2=>
Cd (W00 v1) (
Fin z rg.length [(I .u64 0)] r2) (
B2 (c (.fn 123) [a0] r2) fun v3 r4=>
Fin z rg.length [v3] r4)
theorem S52:SE1 52 k52 s52:=fun _ _ _ _ _=>by kernel_rfl
def k53:KT:=(.n (.l [0]) (.n (.n (.l [0,3]) (.n (.n (.l [2]) (.l [])) (.n (.l [0,6]) (.n (.n (.l [2]) (.l [])) (.l []))))) (.n (.l [2]) (.l []))))
def s53:F1:=fun lp c z a0 rg=>
B2 (c (.fn 68) [a0] rg) fun v1 r2=>
Cd (W00 v1) (
Fin z rg.length [(I .i64 0)] r2) (
B1 (W0a a0) fun v3=>
B1 (vfad 20 v3) fun v4=>
FL 1 v4 r2 fun v6=>
B1 (vbin .eql v6 (I .i64 0)) fun v7=>
Cd (W00 v7) (
B1 (W0a a0) fun v8=>
FL 25 v8 r2 fun v10=>
B1 (vlen v10) fun v11=>
Fin z rg.length [v11] r2) (
B1 (W0a a0) fun v12=>
FL 25 v12 r2 fun v14=>
B1 (vlen v14) fun v15=>
B1 (vbin .mul (I .i64 2) v15) fun v16=>
Fin z rg.length [v16] r2))
theorem S53:SE1 53 k53 s53:=fun _ _ _ _ _=>by kernel_rfl
def k57:KT:=(.n (.l [0]) (.n (.l [0]) (.l [])))
def s57:F0:=fun lp c z rg=>
B2 (W08 [(.int .i64 0),(.int .i64 0),(.int .i64 0),(.slice none 0 0)] rg) fun v1 r2=>
B1 (W06 [(.int .i64 0),(.int .i64 0),(.int .i64 0),(.int .i64 0),(.int .i64 0)] [(0,1,(I .i64 18))]) fun v3=>
B1 (W06 [(.int .i64 0),(.int .i64 0),(.int .i64 0),(.int .i64 0),(.int .i64 0)] [(0,1,(I .i64 19))]) fun v4=>
B1 (W06 [(.int .i64 0),(.int .i64 0),(.int .i64 0),(.int .i64 0),(.int .i64 0)] [(0,1,(I .i64 19))]) fun v5=>
B2 (W0x r2 5 3 [(.int .i64 0),(.int .i64 0),(.int .i64 0),(.int .i64 0),(.int .i64 0)] [(0,v3),(1,v4),(2,v5)]) fun v6 r7=>
B2 (W0x r7 1 1 [(.slice none 0 0)] [(0,v6)]) fun v8 r9=>
B1 (W06 [(.int .i64 0),(.int .i64 0),(.int .i64 0),(.slice none 0 0)] [(1,1,(I .i64 1)),(3,1,v8)]) fun v10=>
B0 (W03 r9 4 v1 v10) fun r11=>
Rc z rg.length (cons? (W0q v1 r11 4 true) (some [])) r11
theorem S57:SE0 57 k57 s57:=fun _ _ _ _=>by kernel_rfl
def V83:KT:=(.n (.l [3,6,7,8,9]) (.n (.n (.l []) (.l [])) (.n (.n (.l [3,5,6,7,8]) (.n (.l [3,5,6,7,8,14]) (.n (.n (.l [2]) (.l [])) (.l [])))) (.l [3,6,7,8]))))
def k58:KT:=(.n (.l [0]) (.n (.l [0,3]) (.n (.n (.l [3,6,7,8]) V83) (.n (.l [2]) (.l [])))))
def Wkv:FB:=fun lp c n0 s=>
B1 (vbin .lss (s.g 8) (s.g 7)) fun v2=>
Cd (W00 v2) (
B1 (vixs 1 (s.g 8) (s.g 6)) fun v3=>
L1 s.regs v3 fun v4=>
B1 (vbin .neq v4 (s.g 3)) fun v5=>
Cd (W00 v5) (
some (.ret,(⟨[(2,v4)],s.regs⟩:St))) (
B1 (vbin .add (s.g 8) (I .i64 1)) fun v6=>
some (.normal,(⟨[(8,v6),(7,(s.g 7)),(6,(s.g 6)),(3,(s.g 3))],s.regs⟩:St)))) (
some ((.exit 0),(⟨[(9,v2),(8,(s.g 8)),(7,(s.g 7)),(6,(s.g 6)),(3,(s.g 3))],s.regs⟩:St)))
def s58:F1:=fun lp c z a0 rg=>
B1 (vlen a0) fun v1=>
B3 (lp (Wkv lp c rg.length) (⟨[(8,(I .i64 0)),(7,v1),(6,a0),(3,(I .i64 0))],rg⟩:St)) fun e7 s8=>X3 e7 (
none) (
Fin z rg.length [(lk s8.slots 2)] s8.regs) (fun i9=>
(bif Nat.beq i9 0 then (
Fin z rg.length [(s8.g 3)] s8.regs)else (
none)))
theorem S58:SE1 58 k58 s58:=fun _ _ _ _ _=>by kernel_rfl
def V84:KT:=(.n (.l [1,4,36,37,38,42,43,44,45]) (.n (.n (.l []) (.l [])) (.n (.n (.l [1,4,6,36,37,38,42,43,44]) (.n (.l [1,4,7,36,37,38,42,43,44]) (.n (.l [1,4,7,36,37,38,42,43,44,54]) (.n (.n (.l [2]) (.l [])) (.l []))))) (.l [1,4,36,37,38,42,43,44]))))
def V85:KT:=(.n (.l [1,36,37,38,39]) (.n (.n (.l []) (.l [])) (.n (.n (.l [1,4,36,37,38]) (.n (.l [1,4,36,37,38,42,43,44]) V84)) (.l [1,36,37,38]))))
def k59:KT:=(.n (.l [1]) (.n (.n (.l [1,8]) (.n (.n (.l [2]) (.l [])) (.n (.l [1,25]) (.n (.n (.l [2]) (.l [])) (.n (.l [1,31]) (.n (.n (.l [2]) (.l [])) (.l []))))))) (.n (.n (.l [1,36,37,38]) V85) (.n (.l [2]) (.l [])))))
def Wg9:FB:=fun lp c n0 s=>
B1 (vbin .lss (s.g 44) (s.g 43)) fun v37=>
Cd (W00 v37) (
B1 (vixs 5 (s.g 44) (s.g 42)) fun v38=>
B1 (W01 s.regs 5 true v38) fun v39=>
B2 (W08 [(.int .i64 0),(.int .i64 0),(.int .i64 0),(.int .i64 0),(.int .i64 0)] s.regs) fun v40 r41=>
B0 (W03 r41 5 v40 v39) fun r42=>
B1 (W01 r42 5 true v40) fun v43=>
B1 (W01 r42 4 true (s.g 1)) fun v44=>
B1 (vlen (s.g 4)) fun v45=>
B2 (c (.fn 130) [v43,v44,v45] r42) fun v46 r47=>
B1 (vbin .neq v46 (I .i64 0)) fun v48=>
Cd (W00 v48) (
some (.ret,(⟨[(2,v46)],r47⟩:St))) (
B1 (vbin .add (s.g 44) (I .i64 1)) fun v49=>
some (.normal,(⟨[(44,v49),(43,(s.g 43)),(42,(s.g 42)),(38,(s.g 38)),(37,(s.g 37)),(36,(s.g 36)),(4,(s.g 4)),(1,(s.g 1))],r47⟩:St)))) (
some ((.exit 3),(⟨[(45,v37),(44,(s.g 44)),(43,(s.g 43)),(42,(s.g 42)),(38,(s.g 38)),(37,(s.g 37)),(36,(s.g 36)),(4,(s.g 4)),(1,(s.g 1))],s.regs⟩:St)))
def Wkw:FB:=fun lp c n0 s=>
B1 (vbin .lss (s.g 38) (s.g 37)) fun v33=>
Cd (W00 v33) (
B1 (vixs 1 (s.g 38) (s.g 36)) fun v34=>
L1 s.regs v34 fun v35=>
B1 (vlen v35) fun v36=>
B3 (lp (Wg9 lp c n0) (⟨[(44,(I .i64 0)),(43,v36),(42,v35),(38,(s.g 38)),(37,(s.g 37)),(36,(s.g 36)),(4,v35),(1,(s.g 1))],s.regs⟩:St)) fun e50 s51=>X3 e50 (
none) (
some (.ret,s51)) (fun i52=>
(bif Nat.beq i52 3 then (
B1 (vbin .add (s51.g 38) (I .i64 1)) fun v54=>
some (.normal,(⟨[(38,v54),(37,(s51.g 37)),(36,(s51.g 36)),(1,(s51.g 1))],s51.regs⟩:St)))else (
(bif Nat.beq i52 2 then (
B1 (vbin .add (s51.g 38) (I .i64 1)) fun v55=>
some (.normal,(⟨[(38,v55),(37,(s51.g 37)),(36,(s51.g 36)),(1,(s51.g 1))],s51.regs⟩:St)))else (
some ((.exit i52),s51))))))) (
some ((.exit 1),(⟨[(39,v33),(38,(s.g 38)),(37,(s.g 37)),(36,(s.g 36)),(1,(s.g 1))],s.regs⟩:St)))
def s59:F1:=fun lp c z a0 rg=>
B2 (vbox a0 rg) fun v1 r2=>
FL 0 v1 r2 fun v4=>
B2 (c (.fn 71) [v4,(I .i64 0),(I .i64 4)] r2) fun v5 r6=>
B1 (vun .not v5) fun v7=>
B1 (Gv false v7 (vfad 1 v1)) fun v8=>
B1 (Gv false v7 (W01 r6 1 false v8)) fun v9=>
B2 (Gr false v7 r6 (c (.fn 71) [v9,(I .i64 0),(I .i64 6)] r6)) fun v10 r11=>
B1 (Gv false v7 (vun .not v10)) fun v12=>
B1 (W0c v7 (Bo true) v12) fun v13=>
B1 (Gv false v13 (vfad 2 v1)) fun v14=>
B1 (Gv false v13 (W01 r11 1 false v14)) fun v15=>
B2 (Gr false v13 r11 (c (.fn 71) [v15,(I .i64 0),(I .i64 2)] r11)) fun v16 r17=>
B1 (Gv false v13 (vun .not v16)) fun v18=>
B1 (W0c v13 (Bo true) v18) fun v19=>
Cd (W00 v19) (
Fin z rg.length [(I .i64 3)] r17) (
FL 3 v1 r17 fun v21=>
B1 (vlen v21) fun v22=>
B2 (c (.fn 71) [v22,(I .i64 1),(I .i64 4)] r17) fun v23 r24=>
B1 (vun .not v23) fun v25=>
Cd (W00 v25) (
Fin z rg.length [(I .i64 4)] r24) (
FL 3 v1 r24 fun v27=>
B2 (c (.fn 128) [v27,(AV.c (.fn (.func 129) [] []))] r24) fun v28 r29=>
Cd (W00 v28) (
Fin z rg.length [(I .i64 4)] r29) (
FL 3 v1 r29 fun v31=>
B1 (vlen v31) fun v32=>
B3 (lp (Wkw lp c rg.length) (⟨[(38,(I .i64 0)),(37,v32),(36,v31),(1,v1)],r29⟩:St)) fun e56 s57=>X3 e56 (
none) (
Fin z rg.length [(lk s57.slots 2)] s57.regs) (fun i58=>
(bif Nat.beq i58 1 then (
Fin z rg.length [(I .i64 0)] s57.regs)else (
none))))))
theorem S59:SE1 59 k59 s59:=fun _ _ _ _ _=>by kernel_rfl
def k60:KT:=(.n (.l [1]) (.n (.n (.l [30]) (.n (.n (.l [2]) (.l [])) (.l []))) (.n (.l [2]) (.l []))))
def s60:F1:=fun lp c z a0 rg=>
B2 (vbox a0 rg) fun v1 r2=>
FL 0 v1 r2 fun v4=>
B2 (c (.fn 71) [v4,(I .i64 0),(I .i64 3)] r2) fun v5 r6=>
B1 (vun .not v5) fun v7=>
B1 (Gv false v7 (vfad 1 v1)) fun v8=>
B1 (Gv false v7 (W01 r6 1 false v8)) fun v9=>
B2 (Gr false v7 r6 (c (.fn 71) [v9,(I .i64 0),(I .i64 1)] r6)) fun v10 r11=>
B1 (Gv false v7 (vun .not v10)) fun v12=>
B1 (W0c v7 (Bo true) v12) fun v13=>
B1 (Gv false v13 (vfad 2 v1)) fun v14=>
B1 (Gv false v13 (W01 r11 1 false v14)) fun v15=>
B2 (Gr false v13 r11 (c (.fn 71) [v15,(I .i64 1),(I .i64 8)] r11)) fun v16 r17=>
B1 (Gv false v13 (vun .not v16)) fun v18=>
B1 (W0c v13 (Bo true) v18) fun v19=>
B1 (Gv false v19 (vfad 3 v1)) fun v20=>
B1 (Gv false v19 (W01 r17 1 false v20)) fun v21=>
B2 (Gr false v19 r17 (c (.fn 71) [v21,(I .i64 0),(I .i64 16)] r17)) fun v22 r23=>
B1 (Gv false v19 (vun .not v22)) fun v24=>
B1 (W0c v19 (Bo true) v24) fun v25=>
B1 (Gv false v25 (vfad 4 v1)) fun v26=>
B1 (Gv false v25 (W01 r23 1 false v26)) fun v27=>
B2 (Gr false v25 r23 (c (.fn 71) [v27,(I .i64 1),(I .i64 4)] r23)) fun v28 r29=>
B1 (Gv false v25 (vun .not v28)) fun v30=>
B1 (W0c v25 (Bo true) v30) fun v31=>
Cd (W00 v31) (
Fin z rg.length [(I .i64 3)] r29) (
Fin z rg.length [(I .i64 0)] r29)
theorem S60:SE1 60 k60 s60:=fun _ _ _ _ _=>by kernel_rfl
def V86:KT:=(.n (.l [3,10,11,12,13]) (.n (.n (.l []) (.l [])) (.n (.n (.l [3,5,10,11,12]) (.n (.l [3,5,10,11,12,22]) (.n (.n (.l [3,5,10,11,12]) (.l [3,10,11,12])) (.l [])))) (.l [3,10,11,12]))))
def k61:KT:=(.n (.l [1]) (.n (.l [1,3]) (.n (.n (.l [3,10,11,12]) V86) (.n (.l [2]) (.l [])))))
def Wga:FB:=fun lp c n0 s=>
B1 (vbin .lss (s.g 12) (s.g 11)) fun v12=>
Cd (W00 v12) (
B1 (vixs 3 (s.g 12) (s.g 10)) fun v13=>
B1 (W01 s.regs 3 true v13) fun v14=>
B2 (W08 [(.int .i64 0),(.int .i64 0),(.int .i64 0)] s.regs) fun v15 r16=>
B0 (W03 r16 3 v15 v14) fun r17=>
B1 (W01 r17 3 true v15) fun v18=>
B2 (c (.fn 132) [v18] r17) fun v19 r20=>
B1 (Gv true v19 (vfad 0 v15)) fun v21=>
B1 (Gv true v19 (W01 r20 1 false v21)) fun v22=>
B1 (Gv true v19 (vbin .neq v22 (I .i64 3))) fun v23=>
B1 (W0c v19 v23 (Bo false)) fun v24=>
Cd (W00 v24) (
B1 (W0a (s.g 3)) fun v25=>
B1 (vfad 0 v25) fun v26=>
L1 r20 v26 fun v27=>
B1 (W01 r20 3 true v15) fun v28=>
B2 (W0x r20 3 1 [(.int .i64 0),(.int .i64 0),(.int .i64 0)] [(0,v28)]) fun v29 r30=>
L1 r30 v26 fun v31=>
Sm v31 v27 (
B2 (vapp r30 3 24 v27 v29) fun v32 r33=>
B1 (W0a (s.g 3)) fun v34=>
B1 (vfad 0 v34) fun v35=>
B0 (W03 r33 1 v35 v32) fun r36=>
B1 (W0a (s.g 3)) fun v37=>
FL 1 v37 r36 fun v39=>
B1 (W01 r36 3 true v15) fun v40=>
B1 (W06 [(.int .i64 0),(.int .i64 0),(.int .i64 0)] []) fun v41=>
B2 (xE (.upd (true,[.i64,.i64,.i64])) [v39,v40,v41] r36) fun v42 r43=>
B1 (vbin .add (s.g 12) (I .i64 1)) fun v44=>
some (.normal,(⟨[(12,v44),(11,(s.g 11)),(10,(s.g 10)),(3,(s.g 3))],r43⟩:St)))) (
B1 (vbin .add (s.g 12) (I .i64 1)) fun v45=>
some (.normal,(⟨[(12,v45),(11,(s.g 11)),(10,(s.g 10)),(3,(s.g 3))],r20⟩:St)))) (
some ((.exit 0),(⟨[(13,v12),(12,(s.g 12)),(11,(s.g 11)),(10,(s.g 10)),(3,(s.g 3))],s.regs⟩:St)))
def s61:F1:=fun lp c z a0 rg=>
B2 (vbox a0 rg) fun v1 r2=>
B2 (xE .mkmap [] r2) fun v3 r4=>
B1 (W06 [(.slice none 0 0),(.map none),(.slice none 0 0)] [(1,1,v3)]) fun v5=>
B2 (vbox v5 r4) fun v6 r7=>
B1 (W01 r7 4 true v1) fun v8=>
B2 (c (.fn 131) [v8] r7) fun v9 r10=>
B1 (vlen v9) fun v11=>
B3 (lp (Wga lp c rg.length) (⟨[(12,(I .i64 0)),(11,v11),(10,v9),(3,v6)],r10⟩:St)) fun e46 s47=>X3 e46 (
none) (
Fin z rg.length [(lk s47.slots 2)] s47.regs) (fun i48=>
(bif Nat.beq i48 0 then (
Fin z rg.length [(s47.g 3)] s47.regs)else (
none)))
theorem S61:SE1 61 k61 s61:=fun _ _ _ _ _=>by kernel_rfl
def V87:KT:=(.n (.l [3,14,15,16]) (.n (.n (.l []) (.l [])) (.n (.n (.l [3,4,14,15]) (.l [3,14,15])) (.l [3,14,15]))))
def k62:KT:=(.n (.l [0]) (.n (.l [3]) (.n (.n (.l [3,14,15]) V87) (.n (.l [2]) (.l [])))))
def Wti:FB:=fun lp c n0 s=>
B1 (vbin .lss (s.g 15) (s.g 14)) fun v12=>
Cd (W00 v12) (
B1 (W0a (s.g 3)) fun v13=>
FL 3 v13 s.regs fun v15=>
B1 (vbin .add (s.g 15) (I .i64 1)) fun v16=>
B2 (W0x s.regs 1 1 [(.int .i64 0)] [(0,v16)]) fun v17 r18=>
B2 (vapp r18 1 8 v15 v17) fun v19 r20=>
B1 (W0a (s.g 3)) fun v21=>
B1 (vfad 3 v21) fun v22=>
B0 (W03 r20 1 v22 v19) fun r23=>
B1 (vbin .add (s.g 15) (I .i64 1)) fun v24=>
some (.normal,(⟨[(15,v24),(14,(s.g 14)),(3,(s.g 3))],r23⟩:St))) (
some ((.exit 0),(⟨[(16,v12),(15,(s.g 15)),(14,(s.g 14)),(3,(s.g 3))],s.regs⟩:St)))
def s62:F1:=fun lp c z a0 rg=>
B2 (c (.fn 133) [a0,(I .i64 0),(I .i64 6)] rg) fun v1 r2=>
B2 (vmks r2 10 80 [(.int .i64 0),(.int .i64 0),(.int .i64 0),(.int .i64 0),(.int .i64 0),(.int .i64 0),(.int .i64 0),(.int .i64 0),(.int .i64 0),(.int .i64 0)] v1 v1) fun v3 r4=>
B1 (W06 [(.slice none 0 0),(.bool false),(.slice none 0 0),(.slice none 0 0)] [(1,1,(Bo true)),(2,1,v3)]) fun v5=>
B2 (vbox v5 r4) fun v6 r7=>
B1 (W0a v6) fun v8=>
FL 2 v8 r7 fun v10=>
B1 (vlen v10) fun v11=>
B3 (lp (Wti lp c rg.length) (⟨[(15,(I .i64 0)),(14,v11),(3,v6)],r7⟩:St)) fun e25 s26=>X3 e25 (
none) (
Fin z rg.length [(lk s26.slots 2)] s26.regs) (fun i27=>
(bif Nat.beq i27 0 then (
Fin z rg.length [(s26.g 3)] s26.regs)else (
none)))
theorem S62:SE1 62 k62 s62:=fun _ _ _ _ _=>by kernel_rfl
def V88:KT:=(.n (.l [1,2,3,13,14,15]) (.n (.n (.l []) (.l [])) (.n (.n (.l [1,2,3,4,13,14]) (.l [1,2,3,13,14])) (.l [1,2,3,13,14]))))
def k63:KT:=(.n (.l [1,2]) (.n (.l [1,2,3]) (.n (.l [1,2,3]) (.n (.n (.l [1,2,3,13,14]) V88) (.n (.l [2]) (.l []))))))
def Wtj:FB:=fun lp c n0 s=>
B1 (vbin .lss (s.g 14) (s.g 13)) fun v19=>
Cd (W00 v19) (
B1 (vfad 3 (s.g 3)) fun v20=>
L1 s.regs v20 fun v21=>
FL 3 (s.g 1) s.regs fun v23=>
B1 (vixs 1 (s.g 14) v23) fun v24=>
L1 s.regs v24 fun v25=>
B2 (c (.fn 134) [v25] s.regs) fun v26 r27=>
L1 r27 v20 fun v28=>
Sm v28 v21 (
B1 (vixs 1 (s.g 14) v21) fun v29=>
B0 (W03 r27 1 v29 v26) fun r30=>
B1 (vbin .add (s.g 14) (I .i64 1)) fun v31=>
some (.normal,(⟨[(14,v31),(13,(s.g 13)),(3,(s.g 3)),(2,(s.g 2)),(1,(s.g 1))],r30⟩:St)))) (
some ((.exit 0),(⟨[(15,v19),(14,(s.g 14)),(13,(s.g 13)),(3,(s.g 3)),(2,(s.g 2)),(1,(s.g 1))],s.regs⟩:St)))
def s63:F1:=fun lp c z a0 rg=>
B2 (vbox a0 rg) fun v1 r2=>
B2 (W08 [(.int .i64 0),(.int .i64 0),(.int .i64 0),(.slice none 0 0)] r2) fun v3 r4=>
B1 (W01 r4 4 true v1) fun v5=>
B2 (W08 [(.int .i64 0),(.int .i64 0),(.int .i64 0),(.slice none 0 0)] r4) fun v6 r7=>
B0 (W03 r7 4 v6 v5) fun r8=>
FL 3 v1 r8 fun v10=>
B1 (vlen v10) fun v11=>
B2 (vmks r8 1 24 [(.slice none 0 0)] v11 v11) fun v12 r13=>
B1 (vfad 3 v6) fun v14=>
B0 (W03 r13 1 v14 v12) fun r15=>
FL 3 v1 r15 fun v17=>
B1 (vlen v17) fun v18=>
B3 (lp (Wtj lp c rg.length) (⟨[(14,(I .i64 0)),(13,v18),(3,v6),(2,v3),(1,v1)],r15⟩:St)) fun e32 s33=>X3 e32 (
none) (
Rc z rg.length (cons? (W0q (lk s33.slots 2) s33.regs 4 true) (some [])) s33.regs) (fun i34=>
(bif Nat.beq i34 0 then (
B1 (W01 s33.regs 4 true (s33.g 3)) fun v36=>
B0 (W03 s33.regs 4 (s33.g 2) v36) fun r37=>
Rc z rg.length (cons? (W0q (s33.g 2) r37 4 true) (some [])) r37)else (
none)))
theorem S63:SE1 63 k63 s63:=fun _ _ _ _ _=>by kernel_rfl
def k64:KT:=(.n (.l [1,2]) (.n (.l [2]) (.l [])))
def s64:F1:=fun lp c z a0 rg=>
B2 (vbox a0 rg) fun v1 r2=>
B2 (W08 [(.int .i64 0),(.int .i64 0),(.int .i64 0),(.int .i64 0),(.int .i64 0),(.int .i64 0),(.int .i64 0),(.int .i64 0),(.int .i64 0),(.int .i64 0),(.int .i64 0),(.int .i64 0),(.int .i64 0),(.int .i64 0),(.int .i64 0),(.int .i64 0),(.int .i64 0),(.int .i64 0),(.slice none 0 0),(.slice none 0 0),(.slice none 0 0),(.int .i64 0)] r2) fun v3 r4=>
FL 3 v1 r4 fun v6=>
B2 (c (.fn 133) [v6,(I .i64 0),(I .i64 16)] r4) fun v7 r8=>
B1 (W06 [(.int .i64 0),(.int .i64 0),(.int .i64 0),(.int .i64 0),(.int .i64 0),(.int .i64 0),(.int .i64 0),(.int .i64 0),(.int .i64 0),(.int .i64 0),(.int .i64 0),(.int .i64 0),(.int .i64 0),(.int .i64 0),(.int .i64 0),(.int .i64 0),(.int .i64 0),(.int .i64 0),(.slice none 0 0),(.slice none 0 0),(.slice none 0 0),(.int .i64 0)] [(1,1,v7)]) fun v9=>
B0 (W03 r8 22 v3 v9) fun r10=>
Rc z rg.length (cons? (W0q v3 r10 22 true) (some [])) r10
theorem S64:SE1 64 k64 s64:=fun _ _ _ _ _=>by kernel_rfl
def k65:KT:=(.n (.l [0]) (.n (.l [2]) (.l [])))
def s65:F1:=fun lp c z a0 rg=>
B2 (c (.fn 133) [a0,(I .i64 0),(I .i64 4)] rg) fun v1 r2=>
B2 (xE (.mkch 64) [v1] r2) fun v3 r4=>
B1 (W06 [(.chan none)] [(0,1,v3)]) fun v5=>
B2 (vbox v5 r4) fun v6 r7=>
Fin z rg.length [v6] r7
theorem S65:SE1 65 k65 s65:=fun _ _ _ _ _=>by kernel_rfl
def k66:KT:=(.l [])
def s66:F2:=fun lp c z a0 a1 rg=>
B1 (W0a a0) fun v1=>
B1 (vfad 2 v1) fun v2=>
B1 (vfad 10 v2) fun v3=>
B1 (vixa 4 1 a1 v3) fun v4=>
B0 (W03 rg 1 v4 (Bo true)) fun r5=>
B1 (W0a a0) fun v6=>
B1 (vfad 2 v6) fun v7=>
B1 (vfad 9 v7) fun v8=>
B0 (W03 r5 1 v8 (Bo true)) fun r9=>
Fin z rg.length [] r9
theorem S66:SE2 66 k66 s66:=fun _ _ _ _ _ _=>by kernel_rfl
def k68:KT:=(.n (.l [0]) (.n (.l [2]) (.l [])))
def s68:F1:=fun lp c z a0 rg=>
B2 (xE (.nilq 0 false) [a0] rg) fun v1 r2=>
B1 (Gv false v1 (some a0)) fun v3=>
B1 (Gv false v1 (W0a v3)) fun v4=>
B1 (Gv false v1 (vfad 25 v4)) fun v5=>
B1 (Gv false v1 (W01 r2 1 false v5)) fun v6=>
B2 (Gr false v1 r2 (xE (.nilq 1 false) [v6] r2)) fun v7 r8=>
B1 (W0c v1 (Bo true) v7) fun v9=>
Fin z rg.length [v9] r8
theorem S68:SE1 68 k68 s68:=fun _ _ _ _ _=>by kernel_rfl
def k69:KT:=(.n (.l [1,2]) (.n (.n (.l [1,2,7]) (.n (.n (.l [4]) (.l [])) (.l []))) (.n (.l [4]) (.l []))))
def s69:F2:=fun lp c z a0 a1 rg=>
B2 (vbox a0 rg) fun v1 r2=>
FL 2 v1 r2 fun v4=>
B1 (vbin .neq v4 (I .i64 0)) fun v5=>
Cd (W00 v5) (
Fin z rg.length [(Bo true)] r2) (
B1 (vfad 15 v1) fun v6=>
FL 0 v6 r2 fun v8=>
B1 (vbin .eql v8 (I .i64 0)) fun v9=>
B1 (Gv true v9 (vfad 1 v1)) fun v10=>
B1 (Gv true v9 (W01 r2 1 false v10)) fun v11=>
B1 (Gv true v9 (vbin .leq v11 (I .i64 0))) fun v12=>
B1 (Gv true v9 (some v12)) fun v13=>
B1 (Gv false v13 (vfad 0 v1)) fun v14=>
B1 (Gv false v13 (W01 r2 1 false v14)) fun v15=>
B1 (Gv false v13 (some a1)) fun v16=>
B1 (Gv false v13 (vlen v16)) fun v17=>
B1 (Gv false v13 (vbin .sub v17 (I .i64 1))) fun v18=>
B2 (Gr false v13 r2 (c (.fn 71) [v15,(I .i64 0),v18] r2)) fun v19 r20=>
B1 (Gv false v13 (vun .not v19)) fun v21=>
B1 (Gv true v9 (W0c v13 (Bo true) v21)) fun v22=>
B1 (W0c v9 v22 (Bo false)) fun v23=>
Fin z rg.length [v23] r20)
theorem S69:SE2 69 k69 s69:=fun _ _ _ _ _ _=>by kernel_rfl
def k70:KT:=(.n (.l [0]) (.n (.n (.l [0,4]) (.n (.n (.l [2]) (.l [])) (.l []))) (.n (.l [2]) (.l []))))
def s70:F1:=fun lp c z a0 rg=>
B2 (c (.fn 135) [a0] rg) fun v1 r2=>
Cd (W00 v1) (
Fin z rg.length [(I .i64 0)] r2) (
B1 (W0a a0) fun v3=>
FL 0 v3 r2 fun v5=>
B2 (xE .chlen [v5] r2) fun v6 r7=>
Fin z rg.length [v6] r7)
theorem S70:SE1 70 k70 s70:=fun _ _ _ _ _=>by kernel_rfl
def k71:KT:=(.n (.l [0,1,2]) (.n (.l [6]) (.l [])))
def s71:F3:=fun lp c z a0 a1 a2 rg=>
B1 (vbin .leq a1 a0) fun v1=>
B1 (Gv true v1 (some a0)) fun v2=>
B1 (Gv true v1 (some a2)) fun v3=>
B1 (Gv true v1 (vbin .leq v2 v3)) fun v4=>
B1 (W0c v1 v4 (Bo false)) fun v5=>
Fin z rg.length [v5] rg
theorem S71:SE3 71 k71 s71:=fun _ _ _ _ _ _ _=>by kernel_rfl
def k72:KT:=(.n (.l [0,1,4]) (.n (.l [0,1,4,5]) (.n (.l [4]) (.l []))))
def s72:F2:=fun lp c z a0 a1 rg=>
B2 (W08 [(.int .i64 0),(.int .i64 0),(.int .i64 0),(.int .i64 0),(.int .i64 0),(.int .i64 0),(.int .i64 0),(.int .i64 0),(.int .i64 0),(.int .i64 0),(.int .i64 0),(.int .i64 0),(.int .i64 0),(.int .i64 0)] rg) fun v1 r2=>
B1 (W06 [(.int .i64 0),(.int .i64 0),(.int .i64 0)] [(0,1,(I .i64 8)),(1,1,a1)]) fun v3=>
B2 (c (.fn 136) [a0,a1,v3,(I .i64 0)] r2) fun v4 r5=>
B2 (W08 [(.int .i64 0),(.int .i64 0),(.int .i64 0)] r5) fun v6 r7=>
B0 (W03 r7 3 v6 v4) fun r8=>
B1 (W0a a0) fun v9=>
B1 (vfad 16 v9) fun v10=>
B1 (W01 r8 4 true v10) fun v11=>
B1 (W0a a0) fun v12=>
FL 25 v12 r8 fun v14=>
B1 (vixs 22 a1 v14) fun v15=>
B1 (W01 r8 22 true v15) fun v16=>
FL 0 v6 r8 fun v18=>
B2 (c (.fn 137) [v11,a1,v16,v18] r8) fun v19 r20=>
B0 (W03 r20 14 v1 v19) fun r21=>
Rc z rg.length (cons? (W0q v1 r21 14 true) (some [])) r21
theorem S72:SE2 72 k72 s72:=fun _ _ _ _ _ _=>by kernel_rfl
def k73:KT:=(.n (.l [1]) (.n (.l [2]) (.l [])))
def s73:F1:=fun lp c z a0 rg=>
B2 (vbox a0 rg) fun v1 r2=>
FL 0 v1 r2 fun v4=>
B1 (vbin .eql v4 (I .i64 3)) fun v5=>
Fin z rg.length [v5] r2
theorem S73:SE1 73 k73 s73:=fun _ _ _ _ _=>by kernel_rfl
def k74:KT:=(.n (.l [0]) (.n (.l [2]) (.l [])))
def s74:F1:=fun lp c z a0 rg=>
B2 (c (.fn 135) [a0] rg) fun v1 r2=>
B1 (Gv false v1 (some a0)) fun v3=>
B1 (Gv false v1 (W0a v3)) fun v4=>
B1 (Gv false v1 (vfad 0 v4)) fun v5=>
B1 (Gv false v1 (W01 r2 1 false v5)) fun v6=>
B2 (Gr false v1 r2 (xE .chlen [v6] r2)) fun v7 r8=>
B1 (Gv false v1 (some a0)) fun v9=>
B1 (Gv false v1 (W0a v9)) fun v10=>
B1 (Gv false v1 (vfad 0 v10)) fun v11=>
B1 (Gv false v1 (W01 r8 1 false v11)) fun v12=>
B2 (Gr false v1 r8 (xE .chcap [v12] r8)) fun v13 r14=>
B1 (Gv false v1 (vbin .eql v7 v13)) fun v15=>
B1 (W0c v1 (Bo true) v15) fun v16=>
Fin z rg.length [v16] r14
theorem S74:SE1 74 k74 s74:=fun _ _ _ _ _=>by kernel_rfl
def k75:KT:=(.n (.l [1]) (.n (.l [2]) (.l [])))
def s75:F1:=fun lp c z a0 rg=>
B2 (vbox a0 rg) fun v1 r2=>
FL 0 v1 r2 fun v4=>
B1 (vbin .eql v4 (I .i64 4)) fun v5=>
B1 (Gv false v5 (vfad 0 v1)) fun v6=>
B1 (Gv false v5 (W01 r2 1 false v6)) fun v7=>
B1 (Gv false v5 (vbin .eql v7 (I .i64 5))) fun v8=>
B1 (W0c v5 (Bo true) v8) fun v9=>
Fin z rg.length [v9] r2
theorem S75:SE1 75 k75 s75:=fun _ _ _ _ _=>by kernel_rfl
def V89:KT:=(.n (.l [3,15,16,17,18]) (.n (.n (.l []) (.l [])) (.n (.n (.l [3,5,15,16,17]) (.l [3,15,16,17])) (.l [3,15,16,17]))))
def k76:KT:=(.n (.l [0]) (.n (.n (.l [0,7]) (.n (.n (.l [2]) (.l [])) (.l []))) (.n (.l [0,3]) (.n (.n (.l [3,15,16,17]) V89) (.n (.l [2]) (.l []))))))
def V8a:FB:=fun lp c n0 s=>
B1 (vbin .lss (s.g 17) (s.g 16)) fun v13=>
Cd (W00 v13) (
B1 (vixs 8 (s.g 17) (s.g 15)) fun v14=>
B1 (W01 s.regs 8 true v14) fun v15=>
B2 (W08 [(.int .i64 0),(.int .i64 0),(.int .i64 0),(.int .i64 0),(.int .i64 0),(.int .i64 0),(.int .i64 0),(.int .i64 0)] s.regs) fun v16 r17=>
B0 (W03 r17 8 v16 v15) fun r18=>
B1 (W01 r18 8 true v16) fun v19=>
B2 (c (.fn 138) [(s.g 3),v19] r18) fun v20 r21=>
B1 (vbin .add (s.g 17) (I .i64 1)) fun v22=>
some (.normal,(⟨[(17,v22),(16,(s.g 16)),(15,(s.g 15)),(3,(s.g 3))],r21⟩:St))) (
some ((.exit 0),(⟨[(18,v13),(17,(s.g 17)),(16,(s.g 16)),(15,(s.g 15)),(3,(s.g 3))],s.regs⟩:St)))
def s76:F1:=fun lp c z a0 rg=>
B2 (c (.fn 135) [a0] rg) fun v1 r2=>
Cd (W00 v1) (
Fin z rg.length [(AV.c (.p (.v (.pointer none))))] r2) (
B1 (W0a a0) fun v3=>
FL 0 v3 r2 fun v5=>
B2 (xE .chcap [v5] r2) fun v6 r7=>
B2 (c (.fn 65) [v6] r7) fun v8 r9=>
B2 (c (.fn 112) [a0] r9) fun v10 r11=>
B1 (vlen v10) fun v12=>
B3 (lp (V8a lp c rg.length) (⟨[(17,(I .i64 0)),(16,v12),(15,v10),(3,v8)],r11⟩:St)) fun e23 s24=>X3 e23 (
none) (
Fin z rg.length [(lk s24.slots 2)] s24.regs) (fun i25=>
(bif Nat.beq i25 0 then (
Fin z rg.length [(s24.g 3)] s24.regs)else (
none))))
theorem S76:SE1 76 k76 s76:=fun _ _ _ _ _=>by kernel_rfl
def k77:KT:=(.n (.l [0]) (.n (.n (.l [0,4]) (.n (.n (.l [2]) (.l [])) (.l []))) (.n (.l [2]) (.l []))))
def s77:F1:=fun lp c z a0 rg=>
B2 (c (.fn 139) [a0] rg) fun v1 r2=>
Cd (W00 v1) (
Fin z rg.length [(I .i64 0)] r2) (
B1 (W0a a0) fun v3=>
FL 2 v3 r2 fun v5=>
B1 (vlen v5) fun v6=>
Fin z rg.length [v6] r2)
theorem S77:SE1 77 k77 s77:=fun _ _ _ _ _=>by kernel_rfl
def k78:KT:=(.n (.l [0]) (.n (.n (.l [0,4]) (.n (.n (.l [2]) (.l [])) (.l []))) (.n (.l [2]) (.l []))))
def s78:F1:=fun lp c z a0 rg=>
B2 (xE (.nilq 0 false) [a0] rg) fun v1 r2=>
Cd (W00 v1) (
Fin z rg.length [(I .i64 0)] r2) (
B1 (W0a a0) fun v3=>
B1 (vfad 0 v3) fun v4=>
FL 0 v4 r2 fun v6=>
B1 (vlen v6) fun v7=>
Fin z rg.length [v7] r2)
theorem S78:SE1 78 k78 s78:=fun _ _ _ _ _=>by kernel_rfl
def k79:KT:=(.n (.l [0,1]) (.n (.l [0,1,5,6]) (.n (.l [0,1,5,6,7,8]) (.n (.n (.l [0,1,5,6,7,36]) (.n (.n (.l []) (.n (.l [4]) (.l []))) (.l []))) (.n (.l [0,1,5,6,7,9]) (.n (.l [0,1,9,10,11]) (.n (.l [0,1,9,11]) (.n (.n (.l [0,1,9,11,68]) (.n (.n (.l [4]) (.l [])) (.l []))) (.n (.l [1,9,11]) (.n (.l [4]) (.l [])))))))))))
def s79:F2:=fun lp c z a0 a1 rg=>
B1 (W0a a0) fun v1=>
B1 (vfad 25 v1) fun v2=>
L1 rg v2 fun v3=>
B1 (vixs 22 a1 v3) fun v4=>
B1 (W01 rg 22 true v4) fun v5=>
B2 (c (.fn 72) [a0,a1] rg) fun v6 r7=>
L1 r7 v2 fun v8=>
Sm v8 v3 (
B1 (W01 r7 22 true v4) fun v9=>
Sm v9 v5 (
B2 (W08 [(.int .i64 0),(.int .i64 0),(.int .i64 0),(.int .i64 0),(.int .i64 0),(.int .i64 0),(.int .i64 0),(.int .i64 0),(.int .i64 0),(.int .i64 0),(.int .i64 0),(.int .i64 0),(.int .i64 0),(.int .i64 0),(.int .i64 0),(.int .i64 0),(.int .i64 0),(.int .i64 0),(.slice none 0 0),(.slice none 0 0),(.slice none 0 0),(.int .i64 0)] r7) fun v10 r11=>
B2 (W08 [(.int .i64 0),(.int .i64 0),(.int .i64 0),(.int .i64 0),(.int .i64 0),(.int .i64 0),(.int .i64 0),(.int .i64 0),(.int .i64 0),(.int .i64 0),(.int .i64 0),(.int .i64 0),(.int .i64 0),(.int .i64 0)] r11) fun v12 r13=>
L1 r13 v2 fun v14=>
Sm v14 v3 (
B1 (W01 r13 22 true v4) fun v15=>
Sm v15 v5 (
B0 (W03 r13 22 v10 v5) fun r16=>
B0 (W03 r16 14 v12 v6) fun r17=>
B1 (W01 r17 22 true v10) fun v18=>
B1 (W0a a0) fun v19=>
B1 (vfad 16 v19) fun v20=>
FL 3 v20 r17 fun v22=>
B1 (vixs 1 a1 v22) fun v23=>
L1 r17 v23 fun v24=>
B2 (c (.fn 140) [v18,v24] r17) fun v25 r26=>
B1 (vext 0 v25) fun v27=>
B1 (vext 1 v25) fun v28=>
B2 (W08 [(.int .i64 0),(.int .i64 0),(.int .i64 0),(.int .i64 0),(.int .i64 0)] r26) fun v29 r30=>
B0 (W03 r30 5 v29 v27) fun r31=>
B1 (vun .not v28) fun v32=>
Cd (W00 v32) (
B1 (W0a a0) fun v33=>
B1 (vfad 25 v33) fun v34=>
L1 r31 v34 fun v35=>
B1 (W01 r31 14 true v12) fun v36=>
B2 (c (.fn 141) [a0,a1,v36] r31) fun v37 r38=>
L1 r38 v34 fun v39=>
Sm v39 v35 (
B1 (vixs 22 a1 v35) fun v40=>
B0 (W03 r38 22 v40 v37) fun r41=>
Fin z rg.length [(AV.c (.p (.v (.slice none 0 0))))] r41)) (
FL 0 v10 r31 fun v43=>
B1 (W01 r31 22 true v10) fun v44=>
B1 (W01 r31 5 true v29) fun v45=>
B1 (W01 r31 14 true v12) fun v46=>
B2 (c (.fn 143) [v44] r31) fun v47 r48=>
B1 (W01 r48 5 true v29) fun v49=>
Sm v49 v45 (
B1 (W01 r48 14 true v12) fun v50=>
Sm v50 v46 (
B2 (c (.fn 142) [a0,a1,v47,v45,v46,v43] r48) fun v51 r52=>
B1 (vext 0 v51) fun v53=>
B1 (vext 1 v51) fun v54=>
B2 (W08 [(.int .i64 0),(.int .i64 0),(.int .i64 0),(.int .i64 0),(.int .i64 0),(.int .i64 0),(.int .i64 0),(.int .i64 0),(.int .i64 0),(.int .i64 0),(.int .i64 0),(.int .i64 0),(.int .i64 0),(.int .i64 0),(.int .i64 0),(.int .i64 0),(.int .i64 0),(.int .i64 0),(.slice none 0 0),(.slice none 0 0),(.slice none 0 0),(.int .i64 0)] r52) fun v55 r56=>
B0 (W03 r56 22 v55 v53) fun r57=>
B1 (W0a a0) fun v58=>
FL 25 v58 r57 fun v60=>
B1 (W01 r57 22 true v55) fun v61=>
B1 (vixs 22 a1 v60) fun v62=>
B0 (W03 r57 22 v62 v61) fun r63=>
B1 (vbin .eql v54 (I .i64 0)) fun v64=>
Cd (W00 v64) (
Fin z rg.length [(AV.c (.p (.v (.slice none 0 0))))] r63) (
B1 (W0a a0) fun v65=>
FL 25 v65 r63 fun v67=>
B1 (vixs 22 a1 v67) fun v68=>
B1 (vfad 2 v68) fun v69=>
B0 (W03 r63 1 v69 (I .i64 2)) fun r70=>
B1 (W06 [(.int .i64 0),(.int .i64 0),(.int .i64 0)] [(0,1,v54),(1,1,a1),(2,1,v43)]) fun v71=>
B2 (W0x r70 3 1 [(.int .i64 0),(.int .i64 0),(.int .i64 0)] [(0,v71)]) fun v72 r73=>
Fin z rg.length [v72] r73))))))))
theorem S79:SE2 79 k79 s79:=fun _ _ _ _ _ _=>by kernel_rfl
def V8b:KT:=(.n (.l [1,5,11,12,13,14]) (.n (.n (.l []) (.l [])) (.n (.n (.l [1,5,6,7,11,12,13]) (.n (.l [1,5,7,8,11,12,13]) (.n (.l [1,5,8,11,12,13,28]) (.n (.l [1,5,11,12,13]) (.l []))))) (.l [1,5,11,12,13]))))
def k81:KT:=(.n (.l [0,1]) (.n (.l [0,1,5]) (.n (.n (.l [1,5,11,12,13]) V8b) (.n (.l [5]) (.n (.l [4]) (.l []))))))
def V8c:FB:=fun lp c n0 s=>
B1 (vbin .lss (s.g 13) (s.g 12)) fun v4=>
Cd (W00 v4) (
B1 (vixs 1 (s.g 13) (s.g 11)) fun v5=>
L1 s.regs v5 fun v6=>
B1 (vixs 10 (s.g 13) (s.g 1)) fun v7=>
B1 (W01 s.regs 10 true v7) fun v8=>
B2 (W08 [(.int .i64 0),(.int .i64 0),(.int .i64 0),(.int .i64 0),(.int .i64 0),(.int .i64 0),(.int .i64 0),(.int .i64 0),(.int .i64 0),(.int .i64 0)] s.regs) fun v9 r10=>
B0 (W03 r10 10 v9 v8) fun r11=>
B1 (vun .not v6) fun v12=>
B1 (Gv true v12 (vfad 0 v9)) fun v13=>
B1 (Gv true v12 (W01 r11 1 false v13)) fun v14=>
B1 (Gv true v12 (vbin .eql v14 (I .i64 1))) fun v15=>
B1 (W0c v12 v15 (Bo false)) fun v16=>
Cd (W00 v16) (
FL 2 v9 r11 fun v18=>
FL 3 v9 r11 fun v20=>
B1 (W06 [(.int .i64 0),(.int .i64 0),(.int .i64 0)] [(0,1,(I .i64 6)),(1,1,v18),(2,1,v20)]) fun v21=>
B2 (W0x r11 3 1 [(.int .i64 0),(.int .i64 0),(.int .i64 0)] [(0,v21)]) fun v22 r23=>
B2 (vapp r23 3 24 (s.g 5) v22) fun v24 r25=>
B1 (vbin .add (s.g 13) (I .i64 1)) fun v26=>
some (.normal,(⟨[(13,v26),(12,(s.g 12)),(11,(s.g 11)),(5,v24),(1,(s.g 1))],r25⟩:St))) (
B1 (vbin .add (s.g 13) (I .i64 1)) fun v27=>
some (.normal,(⟨[(13,v27),(12,(s.g 12)),(11,(s.g 11)),(5,(s.g 5)),(1,(s.g 1))],r11⟩:St)))) (
some ((.exit 0),(⟨[(14,v4),(13,(s.g 13)),(12,(s.g 12)),(11,(s.g 11)),(5,(s.g 5)),(1,(s.g 1))],s.regs⟩:St)))
def s81:F2:=fun lp c z a0 a1 rg=>
B2 (c (.fn 148) [a0,a1] rg) fun v1 r2=>
B1 (vlen v1) fun v3=>
B3 (lp (V8c lp c rg.length) (⟨[(13,(I .i64 0)),(12,v3),(11,v1),(5,(AV.c (.p (.v (.slice none 0 0))))),(1,a1)],r2⟩:St)) fun e28 s29=>X3 e28 (
none) (
Fin z rg.length [(lk s29.slots 4)] s29.regs) (fun i30=>
(bif Nat.beq i30 0 then (
B2 (c (.fn 88) [(s29.g 5),(AV.c (.fn (.func 149) [] []))] s29.regs) fun v32 r33=>
B2 (c (.fn 90) [(s29.g 5)] r33) fun v34 r35=>
Fin z rg.length [v34] r35)else (
none)))
theorem S81:SE2 81 k81 s81:=fun _ _ _ _ _ _=>by kernel_rfl
def k82:KT:=(.n (.l [0]) (.n (.l [2]) (.l [])))
def s82:F1:=fun lp c z a0 rg=>
B2 (c (.fn 152) [a0,(I .i64 1)] rg) fun v1 r2=>
Fin z rg.length [v1] r2
theorem S82:SE1 82 k82 s82:=fun _ _ _ _ _=>by kernel_rfl
def k83:KT:=(.n (.l [0]) (.n (.n (.l [0,4]) (.n (.n (.l [2]) (.l [])) (.l []))) (.n (.l [2]) (.l []))))
def s83:F1:=fun lp c z a0 rg=>
B2 (xE (.nilq 0 false) [a0] rg) fun v1 r2=>
Cd (W00 v1) (
Fin z rg.length [(AV.c (.p (.v (.slice none 0 0))))] r2) (
B1 (W0a a0) fun v3=>
FL 2 v3 r2 fun v5=>
B2 (c (.fn 153) [v5] r2) fun v6 r7=>
Fin z rg.length [v6] r7)
theorem S83:SE1 83 k83 s83:=fun _ _ _ _ _=>by kernel_rfl
def k88:KT:=(.n (.l [0,1,4]) (.l []))
def s88:F2:=fun lp c z a0 a1 rg=>
B1 (vlen a0) fun v1=>
B1 (vcvi .u64 v1) fun v2=>
B2 (c (.fn 158) [v2] rg) fun v3 r4=>
B2 (c (.fn 157) [a0,(I .i64 0),v1,v3,a1] r4) fun v5 r6=>
Fin z rg.length [] r6
theorem S88:SE2 88 k88 s88:=fun _ _ _ _ _ _=>by kernel_rfl
def V8d:KT:=(.n (.n (.l [0,3,4,5,32]) (.n (.l []) (.l []))) (.n (.n (.l [0,3,4,5,44]) (.n (.n (.l [0,3,4,5]) (.l [0,3,4,5])) (.l []))) (.l [0,3,4,5])))
def V8e:KT:=(.n (.n (.l [0,3,13]) (.n (.l []) (.l []))) (.n (.n (.l [0,3,25]) (.n (.n (.l [0,3,4]) (.n (.n (.l [0,3,4,5]) V8d) (.n (.l [0,3]) (.n (.l [2]) (.l []))))) (.l []))) (.l [0,3])))
def k90:KT:=(.n (.l [0]) (.n (.n (.l [0,8]) (.n (.n (.l [2]) (.l [])) (.l []))) (.n (.n (.l [0,3]) V8e) (.n (.l [2]) (.l [])))))
def V8f:FB:=fun lp c n0 s=>
B1 (vlen (s.g 4)) fun v12=>
B1 (vbin .lss (s.g 5) v12) fun v13=>
Cd (W00 v13) (
B1 (vixs 3 (s.g 5) (s.g 4)) fun v14=>
B1 (W01 s.regs 3 true v14) fun v15=>
B1 (vbin .sub (s.g 5) (I .i64 1)) fun v16=>
B1 (vixs 3 v16 (s.g 4)) fun v17=>
B1 (W01 s.regs 3 true v17) fun v18=>
B1 (veqs Go.Proofs.Tryz.prog true 46 [.i64,.i64,.i64] v15 v18) fun v19=>
Cd (W00 v19) (
B1 (vixs 3 (s.g 5) (s.g 4)) fun v20=>
B1 (W01 s.regs 3 true v20) fun v21=>
B1 (vixs 3 (s.g 3) (s.g 0)) fun v22=>
B0 (W03 s.regs 3 v22 v21) fun r23=>
B1 (vbin .add (s.g 3) (I .i64 1)) fun v24=>
B1 (vbin .add (s.g 5) (I .i64 1)) fun v25=>
some (.normal,(⟨[(5,v25),(4,(s.g 4)),(3,v24),(0,(s.g 0))],r23⟩:St))) (
B1 (vbin .add (s.g 5) (I .i64 1)) fun v26=>
some (.normal,(⟨[(5,v26),(4,(s.g 4)),(3,(s.g 3)),(0,(s.g 0))],s.regs⟩:St)))) (
some ((.exit 2),(⟨[(32,v13),(5,(s.g 5)),(4,(s.g 4)),(3,(s.g 3)),(0,(s.g 0))],s.regs⟩:St)))
def V8g:FB:=fun lp c n0 s=>
B1 (vlen (s.g 0)) fun v3=>
B1 (vbin .lss (s.g 3) v3) fun v4=>
Cd (W00 v4) (
B1 (vixs 3 (s.g 3) (s.g 0)) fun v5=>
B1 (W01 s.regs 3 true v5) fun v6=>
B1 (vbin .sub (s.g 3) (I .i64 1)) fun v7=>
B1 (vixs 3 v7 (s.g 0)) fun v8=>
B1 (W01 s.regs 3 true v8) fun v9=>
B1 (veqs Go.Proofs.Tryz.prog false 46 [.i64,.i64,.i64] v6 v9) fun v10=>
Cd (W00 v10) (
B1 (vsls 3 (s.g 0) (some (s.g 3)) none none) fun v11=>
B3 (lp (V8f lp c n0) (⟨[(5,(I .i64 1)),(4,v11),(3,(s.g 3)),(0,(s.g 0))],s.regs⟩:St)) fun e27 s28=>X3 e27 (
none) (
some (.ret,s28)) (fun i29=>
(bif Nat.beq i29 2 then (
B1 (vsls 3 (s28.g 0) (some (s28.g 3)) none none) fun v31=>
B2 (xE (.clr 3) [v31] s28.regs) fun v32 r33=>
B1 (vsls 3 (s28.g 0) none (some (s28.g 3)) none) fun v34=>
some (.ret,(⟨[(2,v34)],r33⟩:St)))else (
(bif Nat.beq i29 1 then (
B1 (vbin .add (s28.g 3) (I .i64 1)) fun v35=>
some (.normal,(⟨[(3,v35),(0,(s28.g 0))],s28.regs⟩:St)))else (
some ((.exit i29),s28))))))) (
B1 (vbin .add (s.g 3) (I .i64 1)) fun v36=>
some (.normal,(⟨[(3,v36),(0,(s.g 0))],s.regs⟩:St)))) (
some ((.exit 0),(⟨[(13,v4),(3,(s.g 3)),(0,(s.g 0))],s.regs⟩:St)))
def s90:F1:=fun lp c z a0 rg=>
B1 (vlen a0) fun v1=>
B1 (vbin .lss v1 (I .i64 2)) fun v2=>
Cd (W00 v2) (
Fin z rg.length [a0] rg) (
B3 (lp (V8g lp c rg.length) (⟨[(3,(I .i64 1)),(0,a0)],rg⟩:St)) fun e37 s38=>X3 e37 (
none) (
Fin z rg.length [(lk s38.slots 2)] s38.regs) (fun i39=>
(bif Nat.beq i39 0 then (
Fin z rg.length [(s38.g 0)] s38.regs)else (
none))))
theorem S90:SE1 90 k90 s90:=fun _ _ _ _ _=>by kernel_rfl
def k91:KT:=(.n (.l [2,3]) (.n (.l [4]) (.l [])))
def s91:F2:=fun lp c z a0 a1 rg=>
B2 (vbox a0 rg) fun v1 r2=>
B2 (vbox a1 r2) fun v3 r4=>
FL 0 v1 r4 fun v6=>
FL 0 v3 r4 fun v8=>
B1 (vbin .eql v6 v8) fun v9=>
B1 (Gv true v9 (vfad 1 v1)) fun v10=>
B1 (Gv true v9 (W01 r4 1 false v10)) fun v11=>
B1 (Gv true v9 (vfad 1 v3)) fun v12=>
B1 (Gv true v9 (W01 r4 1 false v12)) fun v13=>
B1 (Gv true v9 (vbin .eql v11 v13)) fun v14=>
B1 (W0c v9 v14 (Bo false)) fun v15=>
B1 (Gv true v15 (vfad 2 v1)) fun v16=>
B1 (Gv true v15 (W01 r4 1 false v16)) fun v17=>
B1 (Gv true v15 (vfad 2 v3)) fun v18=>
B1 (Gv true v15 (W01 r4 1 false v18)) fun v19=>
B1 (Gv true v15 (vbin .eql v17 v19)) fun v20=>
B1 (W0c v15 v20 (Bo false)) fun v21=>
B1 (Gv true v21 (vfad 3 v1)) fun v22=>
B1 (Gv true v21 (W01 r4 12 true v22)) fun v23=>
B1 (Gv true v21 (vfad 3 v3)) fun v24=>
B1 (Gv true v21 (W01 r4 12 true v24)) fun v25=>
B1 (Gv true v21 (veqs Go.Proofs.Tryz.prog false 115 [.i64,.i64,.i64,.i64,.i64,.i64,.i64,.i64,.i64,.i64,.i64,.i64] v23 v25)) fun v26=>
B1 (W0c v21 v26 (Bo false)) fun v27=>
B1 (Gv true v27 (vfad 15 v1)) fun v28=>
B1 (Gv true v27 (W01 r4 4 true v28)) fun v29=>
B1 (Gv true v27 (vfad 15 v3)) fun v30=>
B1 (Gv true v27 (W01 r4 4 true v30)) fun v31=>
B2 (Gr true v27 r4 (c (.fn 159) [v29,v31] r4)) fun v32 r33=>
B1 (W0c v27 v32 (Bo false)) fun v34=>
B1 (Gv true v34 (vfad 19 v1)) fun v35=>
B1 (Gv true v34 (W01 r33 1 false v35)) fun v36=>
B1 (Gv true v34 (vfad 19 v3)) fun v37=>
B1 (Gv true v34 (W01 r33 1 false v37)) fun v38=>
B2 (Gr true v34 r33 (c (.fn 160) [v36,v38] r33)) fun v39 r40=>
B1 (W0c v34 v39 (Bo false)) fun v41=>
B1 (Gv true v41 (vfad 20 v1)) fun v42=>
B1 (Gv true v41 (W01 r40 1 false v42)) fun v43=>
B1 (Gv true v41 (vfad 20 v3)) fun v44=>
B1 (Gv true v41 (W01 r40 1 false v44)) fun v45=>
B2 (Gr true v41 r40 (c (.fn 96) [v43,v45] r40)) fun v46 r47=>
B1 (W0c v41 v46 (Bo false)) fun v48=>
B1 (Gv true v48 (vfad 21 v1)) fun v49=>
B1 (Gv true v48 (W01 r47 1 false v49)) fun v50=>
B1 (Gv true v48 (vfad 21 v3)) fun v51=>
B1 (Gv true v48 (W01 r47 1 false v51)) fun v52=>
B1 (Gv true v48 (vbin .eql v50 v52)) fun v53=>
B1 (W0c v48 v53 (Bo false)) fun v54=>
Fin z rg.length [v54] r47
theorem S91:SE2 91 k91 s91:=fun _ _ _ _ _ _=>by kernel_rfl
def V8h:KT:=(.n (.n (.l [0,1,5,14]) (.n (.l []) (.l []))) (.n (.n (.l [0,1,5,25]) (.n (.n (.l [4]) (.l [])) (.l []))) (.l [0,1,5])))
def k92:KT:=(.n (.l [0,1]) (.n (.n (.l [0,1,10]) (.n (.n (.l [4]) (.l [])) (.l []))) (.n (.n (.l [0,1,5]) V8h) (.n (.l [4]) (.l [])))))
def Wtk:FB:=fun lp c n0 s=>
B1 (vlen (s.g 0)) fun v4=>
B1 (vbin .lss (s.g 5) v4) fun v5=>
Cd (W00 v5) (
B1 (vixs 8 (s.g 5) (s.g 0)) fun v6=>
B1 (W01 s.regs 8 true v6) fun v7=>
B1 (vixs 8 (s.g 5) (s.g 1)) fun v8=>
B1 (W01 s.regs 8 true v8) fun v9=>
B1 (veqs Go.Proofs.Tryz.prog true 165 [.i64,.i64,.i64,.i64,.i64,.i64,.i64,.i64] v7 v9) fun v10=>
Cd (W00 v10) (
some (.ret,(⟨[(4,(Bo false))],s.regs⟩:St))) (
B1 (vbin .add (s.g 5) (I .i64 1)) fun v11=>
some (.normal,(⟨[(5,v11),(1,(s.g 1)),(0,(s.g 0))],s.regs⟩:St)))) (
some ((.exit 0),(⟨[(14,v5),(5,(s.g 5)),(1,(s.g 1)),(0,(s.g 0))],s.regs⟩:St)))
def s92:F2:=fun lp c z a0 a1 rg=>
B1 (vlen a0) fun v1=>
B1 (vlen a1) fun v2=>
B1 (vbin .neq v1 v2) fun v3=>
Cd (W00 v3) (
Fin z rg.length [(Bo false)] rg) (
B3 (lp (Wtk lp c rg.length) (⟨[(5,(I .i64 0)),(1,a1),(0,a0)],rg⟩:St)) fun e12 s13=>X3 e12 (
none) (
Fin z rg.length [(lk s13.slots 4)] s13.regs) (fun i14=>
(bif Nat.beq i14 0 then (
Fin z rg.length [(Bo true)] s13.regs)else (
none))))
theorem S92:SE2 92 k92 s92:=fun _ _ _ _ _ _=>by kernel_rfl
def V8i:KT:=(.n (.n (.l [0,1,5,14]) (.n (.l []) (.l []))) (.n (.n (.l [0,1,5,25]) (.n (.n (.l [4]) (.l [])) (.l []))) (.l [0,1,5])))
def k93:KT:=(.n (.l [0,1]) (.n (.n (.l [0,1,10]) (.n (.n (.l [4]) (.l [])) (.l []))) (.n (.n (.l [0,1,5]) V8i) (.n (.l [4]) (.l [])))))
def Wtl:FB:=fun lp c n0 s=>
B1 (vlen (s.g 0)) fun v4=>
B1 (vbin .lss (s.g 5) v4) fun v5=>
Cd (W00 v5) (
B1 (vixs 3 (s.g 5) (s.g 0)) fun v6=>
B1 (W01 s.regs 3 true v6) fun v7=>
B1 (vixs 3 (s.g 5) (s.g 1)) fun v8=>
B1 (W01 s.regs 3 true v8) fun v9=>
B1 (veqs Go.Proofs.Tryz.prog true 114 [.i64,.i64,.i64] v7 v9) fun v10=>
Cd (W00 v10) (
some (.ret,(⟨[(4,(Bo false))],s.regs⟩:St))) (
B1 (vbin .add (s.g 5) (I .i64 1)) fun v11=>
some (.normal,(⟨[(5,v11),(1,(s.g 1)),(0,(s.g 0))],s.regs⟩:St)))) (
some ((.exit 0),(⟨[(14,v5),(5,(s.g 5)),(1,(s.g 1)),(0,(s.g 0))],s.regs⟩:St)))
def s93:F2:=fun lp c z a0 a1 rg=>
B1 (vlen a0) fun v1=>
B1 (vlen a1) fun v2=>
B1 (vbin .neq v1 v2) fun v3=>
Cd (W00 v3) (
Fin z rg.length [(Bo false)] rg) (
B3 (lp (Wtl lp c rg.length) (⟨[(5,(I .i64 0)),(1,a1),(0,a0)],rg⟩:St)) fun e12 s13=>X3 e12 (
none) (
Fin z rg.length [(lk s13.slots 4)] s13.regs) (fun i14=>
(bif Nat.beq i14 0 then (
Fin z rg.length [(Bo true)] s13.regs)else (
none))))
theorem S93:SE2 93 k93 s93:=fun _ _ _ _ _ _=>by kernel_rfl
def V8j:KT:=(.n (.n (.l [0,1,5,14]) (.n (.l []) (.l []))) (.n (.n (.l [0,1,5,25]) (.n (.n (.l [4]) (.l [])) (.l []))) (.l [0,1,5])))
def k94:KT:=(.n (.l [0,1]) (.n (.n (.l [0,1,10]) (.n (.n (.l [4]) (.l [])) (.l []))) (.n (.n (.l [0,1,5]) V8j) (.n (.l [4]) (.l [])))))
def Wtm:FB:=fun lp c n0 s=>
B1 (vlen (s.g 0)) fun v4=>
B1 (vbin .lss (s.g 5) v4) fun v5=>
Cd (W00 v5) (
B1 (vixs 10 (s.g 5) (s.g 0)) fun v6=>
B1 (W01 s.regs 10 true v6) fun v7=>
B1 (vixs 10 (s.g 5) (s.g 1)) fun v8=>
B1 (W01 s.regs 10 true v8) fun v9=>
B1 (veqs Go.Proofs.Tryz.prog true 177 [.i64,.i64,.i64,.i64,.i64,.i64,.i64,.i64,.i64,.i64] v7 v9) fun v10=>
Cd (W00 v10) (
some (.ret,(⟨[(4,(Bo false))],s.regs⟩:St))) (
B1 (vbin .add (s.g 5) (I .i64 1)) fun v11=>
some (.normal,(⟨[(5,v11),(1,(s.g 1)),(0,(s.g 0))],s.regs⟩:St)))) (
some ((.exit 0),(⟨[(14,v5),(5,(s.g 5)),(1,(s.g 1)),(0,(s.g 0))],s.regs⟩:St)))
def s94:F2:=fun lp c z a0 a1 rg=>
B1 (vlen a0) fun v1=>
B1 (vlen a1) fun v2=>
B1 (vbin .neq v1 v2) fun v3=>
Cd (W00 v3) (
Fin z rg.length [(Bo false)] rg) (
B3 (lp (Wtm lp c rg.length) (⟨[(5,(I .i64 0)),(1,a1),(0,a0)],rg⟩:St)) fun e12 s13=>X3 e12 (
none) (
Fin z rg.length [(lk s13.slots 4)] s13.regs) (fun i14=>
(bif Nat.beq i14 0 then (
Fin z rg.length [(Bo true)] s13.regs)else (
none))))
theorem S94:SE2 94 k94 s94:=fun _ _ _ _ _ _=>by kernel_rfl
def V8k:KT:=(.n (.n (.l [0,1,5,14]) (.n (.l []) (.l []))) (.n (.n (.l [0,1,5,25]) (.n (.n (.l [4]) (.l [])) (.l []))) (.l [0,1,5])))
def k95:KT:=(.n (.l [0,1]) (.n (.n (.l [0,1,10]) (.n (.n (.l [4]) (.l [])) (.l []))) (.n (.n (.l [0,1,5]) V8k) (.n (.l [4]) (.l [])))))
def Wtn:FB:=fun lp c n0 s=>
B1 (vlen (s.g 0)) fun v4=>
B1 (vbin .lss (s.g 5) v4) fun v5=>
Cd (W00 v5) (
B1 (vixs 1 (s.g 5) (s.g 0)) fun v6=>
L1 s.regs v6 fun v7=>
B1 (vixs 1 (s.g 5) (s.g 1)) fun v8=>
L1 s.regs v8 fun v9=>
B1 (vbin .neq v7 v9) fun v10=>
Cd (W00 v10) (
some (.ret,(⟨[(4,(Bo false))],s.regs⟩:St))) (
B1 (vbin .add (s.g 5) (I .i64 1)) fun v11=>
some (.normal,(⟨[(5,v11),(1,(s.g 1)),(0,(s.g 0))],s.regs⟩:St)))) (
some ((.exit 0),(⟨[(14,v5),(5,(s.g 5)),(1,(s.g 1)),(0,(s.g 0))],s.regs⟩:St)))
def s95:F2:=fun lp c z a0 a1 rg=>
B1 (vlen a0) fun v1=>
B1 (vlen a1) fun v2=>
B1 (vbin .neq v1 v2) fun v3=>
Cd (W00 v3) (
Fin z rg.length [(Bo false)] rg) (
B3 (lp (Wtn lp c rg.length) (⟨[(5,(I .i64 0)),(1,a1),(0,a0)],rg⟩:St)) fun e12 s13=>X3 e12 (
none) (
Fin z rg.length [(lk s13.slots 4)] s13.regs) (fun i14=>
(bif Nat.beq i14 0 then (
Fin z rg.length [(Bo true)] s13.regs)else (
none))))
theorem S95:SE2 95 k95 s95:=fun _ _ _ _ _ _=>by kernel_rfl
def V8l:KT:=(.n (.n (.l [0,1,5,14]) (.n (.l []) (.l []))) (.n (.n (.l [0,1,5,25]) (.n (.n (.l [4]) (.l [])) (.l []))) (.l [0,1,5])))
def k96:KT:=(.n (.l [0,1]) (.n (.n (.l [0,1,10]) (.n (.n (.l [4]) (.l [])) (.l []))) (.n (.n (.l [0,1,5]) V8l) (.n (.l [4]) (.l [])))))
def Wto:FB:=fun lp c n0 s=>
B1 (vlen (s.g 0)) fun v4=>
B1 (vbin .lss (s.g 5) v4) fun v5=>
Cd (W00 v5) (
B1 (vixs 1 (s.g 5) (s.g 0)) fun v6=>
L1 s.regs v6 fun v7=>
B1 (vixs 1 (s.g 5) (s.g 1)) fun v8=>
L1 s.regs v8 fun v9=>
B1 (vbin .neq v7 v9) fun v10=>
Cd (W00 v10) (
some (.ret,(⟨[(4,(Bo false))],s.regs⟩:St))) (
B1 (vbin .add (s.g 5) (I .i64 1)) fun v11=>
some (.normal,(⟨[(5,v11),(1,(s.g 1)),(0,(s.g 0))],s.regs⟩:St)))) (
some ((.exit 0),(⟨[(14,v5),(5,(s.g 5)),(1,(s.g 1)),(0,(s.g 0))],s.regs⟩:St)))
def s96:F2:=fun lp c z a0 a1 rg=>
B1 (vlen a0) fun v1=>
B1 (vlen a1) fun v2=>
B1 (vbin .neq v1 v2) fun v3=>
Cd (W00 v3) (
Fin z rg.length [(Bo false)] rg) (
B3 (lp (Wto lp c rg.length) (⟨[(5,(I .i64 0)),(1,a1),(0,a0)],rg⟩:St)) fun e12 s13=>X3 e12 (
none) (
Fin z rg.length [(lk s13.slots 4)] s13.regs) (fun i14=>
(bif Nat.beq i14 0 then (
Fin z rg.length [(Bo true)] s13.regs)else (
none))))
theorem S96:SE2 96 k96 s96:=fun _ _ _ _ _ _=>by kernel_rfl
def k97:KT:=(.n (.l [0,1]) (.n (.l [4]) (.l [])))
def s97:F2:=fun lp c z a0 a1 rg=>
B1 (vbin .geq a0 (I .i64 0)) fun v1=>
B1 (Gv true v1 (some a0)) fun v2=>
B1 (Gv true v1 (some a1)) fun v3=>
B1 (Gv true v1 (vbin .leq v2 v3)) fun v4=>
B1 (W0c v1 v4 (Bo false)) fun v5=>
Fin z rg.length [v5] rg
theorem S97:SE2 97 k97 s97:=fun _ _ _ _ _ _=>by kernel_rfl
def V8m:KT:=(.n (.n (.l [2,3,4,7,8,16]) (.n (.l []) (.l []))) (.n (.n (.l [2,3,4,7,8,9]) (.n (.l [2,3,4,7,8,39]) (.n (.n (.l [6]) (.l [])) (.l [])))) (.l [2,3,4,7,8])))
def k98:KT:=(.n (.l [2,3,4]) (.n (.l [2,3,4,7]) (.n (.n (.l [2,3,4,7,14]) (.n (.n (.l [6]) (.l [])) (.l []))) (.n (.n (.l [2,3,4,7,8]) V8m) (.n (.l [6]) (.l []))))))
def Wc6:FB:=fun lp c n0 s=>
B1 (vbin .lss (s.g 8) (I .i64 4)) fun v10=>
Cd (W00 v10) (
B1 (W01 s.regs 5 true (s.g 3)) fun v11=>
B2 (c (.fn 162) [v11,(s.g 8)] s.regs) fun v12 r13=>
B1 (vixt (s.g 7) (s.g 8)) fun v14=>
B1 (vbin .neq v14 (I .u8 110)) fun v15=>
B1 (Gv true v15 (some v12)) fun v16=>
B1 (Gv true v15 (vbin .lss v16 (I .i64 0))) fun v17=>
B1 (Gv true v15 (some v17)) fun v18=>
B1 (Gv false v18 (some v12)) fun v19=>
B1 (Gv false v18 (some (s.g 7))) fun v20=>
B1 (Gv false v18 (some (s.g 8))) fun v21=>
B1 (Gv false v18 (vixt v20 v21)) fun v22=>
B1 (Gv false v18 (W01 r13 4 true (s.g 4))) fun v23=>
B1 (Gv false v18 (some (s.g 2))) fun v24=>
B2 (Gr false v18 r13 (c (.fn 163) [v22,v23,v24] r13)) fun v25 r26=>
B1 (Gv false v18 (vbin .gtr v19 v25)) fun v27=>
B1 (Gv true v15 (W0c v18 (Bo true) v27)) fun v28=>
B1 (W0c v15 v28 (Bo false)) fun v29=>
Cd (W00 v29) (
some (.ret,(⟨[(6,(I .i64 3))],r26⟩:St))) (
B1 (vbin .add (s.g 8) (I .i64 1)) fun v30=>
some (.normal,(⟨[(8,v30),(7,(s.g 7)),(4,(s.g 4)),(3,(s.g 3)),(2,(s.g 2))],r26⟩:St)))) (
some ((.exit 0),(⟨[(16,v10),(8,(s.g 8)),(7,(s.g 7)),(4,(s.g 4)),(3,(s.g 3)),(2,(s.g 2))],s.regs⟩:St)))
def s98:F3:=fun lp c z a0 a1 a2 rg=>
B2 (vbox a0 rg) fun v1 r2=>
B2 (vbox a1 r2) fun v3 r4=>
FL 0 v1 r4 fun v6=>
B2 (c (.fn 161) [v6] r4) fun v7 r8=>
B1 (vbin .eql v7 (AV.c (.p (.v (.string ⟨#[]⟩))))) fun v9=>
Cd (W00 v9) (
Fin z rg.length [(I .i64 2)] r8) (
B3 (lp (Wc6 lp c rg.length) (⟨[(8,(I .i64 0)),(7,v7),(4,v3),(3,v1),(2,a2)],r8⟩:St)) fun e31 s32=>X3 e31 (
none) (
Fin z rg.length [(lk s32.slots 6)] s32.regs) (fun i33=>
(bif Nat.beq i33 0 then (
Fin z rg.length [(I .i64 0)] s32.regs)else (
none))))
theorem S98:SE3 98 k98 s98:=fun _ _ _ _ _ _ _=>by kernel_rfl
def k99:KT:=(.n (.l [0,1,2]) (.n (.l [6]) (.l [])))
def s99:F3:=fun lp c z a0 a1 a2 rg=>
B1 (vbin .geq a0 a1) fun v1=>
B1 (Gv true v1 (some a0)) fun v2=>
B1 (Gv true v1 (some a2)) fun v3=>
B1 (Gv true v1 (vbin .leq v2 v3)) fun v4=>
B1 (W0c v1 v4 (Bo false)) fun v5=>
Fin z rg.length [v5] rg
theorem S99:SE3 99 k99 s99:=fun _ _ _ _ _ _ _=>by kernel_rfl
def V2v:KT:=(.n (.n (.l [2,3,5,10]) (.n (.l []) (.l []))) (.n (.n (.l [2,3,5,33]) (.n (.n (.l [4]) (.l [])) (.l []))) (.l [2,3,5])))
def k100:KT:=(.n (.l [2,3]) (.n (.n (.l [2,3,5]) V2v) (.n (.l [4]) (.l []))))
def Wb2:FB:=fun lp c n0 s=>
FL 3 (s.g 2) s.regs fun v6=>
B1 (vlen v6) fun v7=>
B1 (vbin .lss (s.g 5) v7) fun v8=>
Cd (W00 v8) (
FL 0 (s.g 3) s.regs fun v10=>
B1 (vixs 22 (s.g 5) v10) fun v11=>
B1 (W01 s.regs 22 true v11) fun v12=>
FL 3 (s.g 2) s.regs fun v14=>
B1 (vixs 1 (s.g 5) v14) fun v15=>
L1 s.regs v15 fun v16=>
B2 (c (.fn 103) [v12,v16] s.regs) fun v17 r18=>
B1 (vun .not v17) fun v19=>
B1 (Gv false v19 (vfad 1 (s.g 3))) fun v20=>
B1 (Gv false v19 (W01 r18 1 false v20)) fun v21=>
B1 (Gv false v19 (some (s.g 5))) fun v22=>
B1 (Gv false v19 (vixs 1 v22 v21)) fun v23=>
B1 (Gv false v19 (W01 r18 1 false v23)) fun v24=>
B1 (Gv false v19 (vlen v24)) fun v25=>
B1 (Gv false v19 (vbin .gtr v25 (I .i64 0))) fun v26=>
B1 (W0c v19 (Bo true) v26) fun v27=>
Cd (W00 v27) (
some (.ret,(⟨[(4,(Bo false))],r18⟩:St))) (
B1 (vbin .add (s.g 5) (I .i64 1)) fun v28=>
some (.normal,(⟨[(5,v28),(3,(s.g 3)),(2,(s.g 2))],r18⟩:St)))) (
some ((.exit 0),(⟨[(10,v8),(5,(s.g 5)),(3,(s.g 3)),(2,(s.g 2))],s.regs⟩:St)))
def s100:F2:=fun lp c z a0 a1 rg=>
B2 (vbox a0 rg) fun v1 r2=>
B2 (vbox a1 r2) fun v3 r4=>
B3 (lp (Wb2 lp c rg.length) (⟨[(5,(I .i64 0)),(3,v3),(2,v1)],r4⟩:St)) fun e29 s30=>X3 e29 (
none) (
Fin z rg.length [(lk s30.slots 4)] s30.regs) (fun i31=>
(bif Nat.beq i31 0 then (
Fin z rg.length [(Bo true)] s30.regs)else (
none)))
theorem S100:SE2 100 k100 s100:=fun _ _ _ _ _ _=>by kernel_rfl
def V2w:KT:=(.n (.n (.l [1,3,5,31]) (.n (.l []) (.l []))) (.n (.l [1,3,5]) (.l [1,3,5])))
def V2x:KT:=(.n (.n (.l [1,3,4,13]) (.n (.l []) (.l []))) (.n (.l [1,3,4]) (.l [1,3,4])))
def k101:KT:=(.n (.l [1]) (.n (.l [1,3]) (.n (.n (.l [1,3,4]) V2x) (.n (.n (.l [1,3,5]) V2w) (.n (.l [2]) (.l []))))))
def Wid:FB:=fun lp c n0 s=>
FL 1 (s.g 1) s.regs fun v28=>
B1 (vlen v28) fun v29=>
B1 (vbin .lss (s.g 5) v29) fun v30=>
Cd (W00 v30) (
B1 (vbin .add (I .i64 64) (s.g 5)) fun v31=>
B1 (vcvi .u64 v31) fun v32=>
FL 1 (s.g 1) s.regs fun v34=>
B1 (vixs 1 (s.g 5) v34) fun v35=>
L1 s.regs v35 fun v36=>
B2 (c (.fn 167) [v36] s.regs) fun v37 r38=>
B2 (c (.fn 164) [v32,v37] r38) fun v39 r40=>
B1 (vbin .xor (s.g 3) v39) fun v41=>
B1 (vbin .add (s.g 5) (I .i64 1)) fun v42=>
some (.normal,(⟨[(5,v42),(3,v41),(1,(s.g 1))],r40⟩:St))) (
some ((.exit 2),(⟨[(31,v30),(5,(s.g 5)),(3,(s.g 3)),(1,(s.g 1))],s.regs⟩:St)))
def Wie:FB:=fun lp c n0 s=>
FL 0 (s.g 1) s.regs fun v9=>
B1 (vlen v9) fun v10=>
B1 (vbin .lss (s.g 4) v10) fun v11=>
Cd (W00 v11) (
B1 (vcvi .u64 (s.g 4)) fun v12=>
FL 0 (s.g 1) s.regs fun v14=>
B1 (vixs 22 (s.g 4) v14) fun v15=>
B1 (W01 s.regs 22 true v15) fun v16=>
B2 (c (.fn 166) [v16] s.regs) fun v17 r18=>
B2 (c (.fn 164) [v12,v17] r18) fun v19 r20=>
B1 (vbin .xor (s.g 3) v19) fun v21=>
B1 (vbin .add (s.g 4) (I .i64 1)) fun v22=>
some (.normal,(⟨[(4,v22),(3,v21),(1,(s.g 1))],r20⟩:St))) (
some ((.exit 0),(⟨[(13,v11),(4,(s.g 4)),(3,(s.g 3)),(1,(s.g 1))],s.regs⟩:St)))
def s101:F1:=fun lp c z a0 rg=>
B2 (vbox a0 rg) fun v1 r2=>
B1 (W01 r2 9 true v1) fun v3=>
B2 (c (.fn 165) [v3] r2) fun v4 r5=>
B2 (c (.fn 164) [(I .u64 128),v4] r5) fun v6 r7=>
B3 (lp (Wie lp c rg.length) (⟨[(4,(I .i64 0)),(3,v6),(1,v1)],r7⟩:St)) fun e23 s24=>X3 e23 (
none) (
Fin z rg.length [(lk s24.slots 2)] s24.regs) (fun i25=>
(bif Nat.beq i25 0 then (
B3 (lp (Wid lp c rg.length) (⟨[(5,(I .i64 0)),(3,(s24.g 3)),(1,(s24.g 1))],s24.regs⟩:St)) fun e43 s44=>X3 e43 (
none) (
Fin z rg.length [(lk s44.slots 2)] s44.regs) (fun i45=>
(bif Nat.beq i45 2 then (
Fin z rg.length [(s44.g 3)] s44.regs)else (
none))))else (
none)))
theorem S101:SE1 101 k101 s101:=fun _ _ _ _ _=>by kernel_rfl
def V2y:KT:=(.n (.n (.l [0,2,3,4,11]) (.n (.l []) (.l []))) (.n (.n (.l [0,2,3,4]) (.l [0,2,3,4])) (.l [0,2,3,4])))
def k102:KT:=(.n (.l [0,2]) (.n (.l [0,2,3]) (.n (.n (.l [0,2,3,4]) V2y) (.n (.l [2]) (.l [])))))
def Wem:FB:=fun lp c n0 s=>
B1 (vbin .leq (s.g 4) (s.g 0)) fun v5=>
B1 (Gv true v5 (some (s.g 4))) fun v6=>
B1 (Gv true v5 (vbin .leq v6 (I .i64 6))) fun v7=>
B1 (W0c v5 v7 (Bo false)) fun v8=>
Cd (W00 v8) (
FL 0 (s.g 3) s.regs fun v10=>
B1 (W06 [(.int .i64 0),(.int .i64 0),(.int .i64 0),(.int .i64 0),(.int .i64 0),(.int .i64 0),(.int .i64 0),(.int .i64 0),(.int .i64 0),(.int .i64 0)] []) fun v11=>
B2 (W0x s.regs 10 1 [(.int .i64 0),(.int .i64 0),(.int .i64 0),(.int .i64 0),(.int .i64 0),(.int .i64 0),(.int .i64 0),(.int .i64 0),(.int .i64 0),(.int .i64 0)] [(0,v11)]) fun v12 r13=>
B2 (vapp r13 10 80 v10 v12) fun v14 r15=>
B1 (vfad 0 (s.g 3)) fun v16=>
B0 (W03 r15 1 v16 v14) fun r17=>
FL 1 (s.g 3) r17 fun v19=>
B2 (W0x r17 1 1 [(.int .i64 0)] [(0,(s.g 4))]) fun v20 r21=>
B2 (vapp r21 1 8 v19 v20) fun v22 r23=>
B1 (vfad 1 (s.g 3)) fun v24=>
B0 (W03 r23 1 v24 v22) fun r25=>
B1 (vbin .add (s.g 4) (I .i64 1)) fun v26=>
some (.normal,(⟨[(4,v26),(3,(s.g 3)),(2,(s.g 2)),(0,(s.g 0))],r25⟩:St))) (
some ((.exit 0),(⟨[(11,v8),(4,(s.g 4)),(3,(s.g 3)),(2,(s.g 2)),(0,(s.g 0))],s.regs⟩:St)))
def s102:F1:=fun lp c z a0 rg=>
B2 (W08 [(.slice none 0 0),(.slice none 0 0)] rg) fun v1 r2=>
B2 (W08 [(.slice none 0 0),(.slice none 0 0)] r2) fun v3 r4=>
B3 (lp (Wem lp c rg.length) (⟨[(4,(I .i64 1)),(3,v3),(2,v1),(0,a0)],r4⟩:St)) fun e27 s28=>X3 e27 (
none) (
Rc z rg.length (cons? (W0q (lk s28.slots 2) s28.regs 2 true) (some [])) s28.regs) (fun i29=>
(bif Nat.beq i29 0 then (
B1 (W01 s28.regs 2 true (s28.g 3)) fun v31=>
B0 (W03 s28.regs 2 (s28.g 2) v31) fun r32=>
Rc z rg.length (cons? (W0q (s28.g 2) r32 2 true) (some [])) r32)else (
none)))
theorem S102:SE1 102 k102 s102:=fun _ _ _ _ _=>by kernel_rfl
def k103:KT:=(.n (.l [1,2]) (.n (.n (.l [1,2,7]) (.n (.n (.l [4]) (.l [])) (.l []))) (.n (.n (.l [1,2,11]) (.n (.n (.l [4]) (.l [])) (.l []))) (.n (.l [4]) (.l [])))))
def s103:F2:=fun lp c z a0 a1 rg=>
B2 (vbox a0 rg) fun v1 r2=>
FL 2 v1 r2 fun v4=>
B1 (vbin .neq v4 (I .i64 0)) fun v5=>
Cd (W00 v5) (
Fin z rg.length [(Bo true)] r2) (
B1 (vfad 15 v1) fun v6=>
FL 0 v6 r2 fun v8=>
B1 (vbin .neq v8 (I .i64 0)) fun v9=>
Cd (W00 v9) (
Fin z rg.length [(Bo false)] r2) (
FL 1 v1 r2 fun v11=>
B1 (vbin .leq v11 (I .i64 0)) fun v12=>
B1 (Gv false v12 (vfad 0 v1)) fun v13=>
B1 (Gv false v12 (W01 r2 1 false v13)) fun v14=>
B1 (Gv false v12 (vbin .lss v14 (I .i64 0))) fun v15=>
B1 (W0c v12 (Bo true) v15) fun v16=>
B1 (Gv false v16 (vfad 0 v1)) fun v17=>
B1 (Gv false v16 (W01 r2 1 false v17)) fun v18=>
B1 (Gv false v16 (some a1)) fun v19=>
B1 (Gv false v16 (vlen v19)) fun v20=>
B1 (Gv false v16 (vbin .geq v18 v20)) fun v21=>
B1 (W0c v16 (Bo true) v21) fun v22=>
Fin z rg.length [v22] r2))
theorem S103:SE2 103 k103 s103:=fun _ _ _ _ _ _=>by kernel_rfl
def k104:KT:=(.n (.l [2,3,4]) (.n (.l [2,4,7]) (.n (.l [6]) (.l []))))
def s104:F3:=fun lp c z a0 a1 a2 rg=>
B2 (vbox a0 rg) fun v1 r2=>
B2 (vbox a1 r2) fun v3 r4=>
B1 (W01 r4 4 true v1) fun v5=>
B1 (W01 r4 9 true v3) fun v6=>
B2 (c (.fn 168) [v5,v6,a2] r4) fun v7 r8=>
B1 (vfld 0 1 false v7) fun v9=>
FL 0 v3 r8 fun v11=>
B1 (vixs 22 a2 v11) fun v12=>
B1 (vfad 15 v12) fun v13=>
FL 0 v13 r8 fun v15=>
B1 (vbin .eql v15 (I .i64 1)) fun v16=>
B1 (Gv false v16 (some v9)) fun v17=>
B1 (Gv false v16 (vbin .eql v17 (I .i64 12))) fun v18=>
B1 (W0c v16 (Bo true) v18) fun v19=>
B1 (Gv false v19 (some v9)) fun v20=>
B1 (Gv false v19 (vbin .eql v20 (I .i64 15))) fun v21=>
B1 (W0c v19 (Bo true) v21) fun v22=>
B1 (Gv false v22 (some v9)) fun v23=>
B1 (Gv false v22 (vbin .eql v23 (I .i64 21))) fun v24=>
B1 (W0c v22 (Bo true) v24) fun v25=>
B1 (Gv false v25 (some v9)) fun v26=>
B1 (Gv false v25 (vbin .eql v26 (I .i64 22))) fun v27=>
B1 (W0c v25 (Bo true) v27) fun v28=>
B1 (Gv false v28 (some v9)) fun v29=>
B1 (Gv false v28 (vbin .eql v29 (I .i64 24))) fun v30=>
B1 (W0c v28 (Bo true) v30) fun v31=>
B1 (Gv false v31 (some v9)) fun v32=>
B1 (Gv false v31 (vbin .eql v32 (I .i64 25))) fun v33=>
B1 (W0c v31 (Bo true) v33) fun v34=>
Fin z rg.length [v34] r8
theorem S104:SE3 104 k104 s104:=fun _ _ _ _ _ _ _=>by kernel_rfl
def k105:KT:=(.n (.l [2,3,4]) (.n (.l [2,4,7]) (.n (.l [6]) (.l []))))
def s105:F3:=fun lp c z a0 a1 a2 rg=>
B2 (vbox a0 rg) fun v1 r2=>
B2 (vbox a1 r2) fun v3 r4=>
B1 (W01 r4 4 true v1) fun v5=>
B1 (W01 r4 9 true v3) fun v6=>
B2 (c (.fn 168) [v5,v6,a2] r4) fun v7 r8=>
B1 (vfld 0 1 false v7) fun v9=>
FL 0 v3 r8 fun v11=>
B1 (vixs 22 a2 v11) fun v12=>
B1 (vfad 15 v12) fun v13=>
FL 0 v13 r8 fun v15=>
B1 (vbin .eql v15 (I .i64 6)) fun v16=>
B1 (Gv false v16 (some v9)) fun v17=>
B1 (Gv false v16 (vbin .eql v17 (I .i64 13))) fun v18=>
B1 (W0c v16 (Bo true) v18) fun v19=>
B1 (Gv false v19 (some v9)) fun v20=>
B1 (Gv false v19 (vbin .eql v20 (I .i64 16))) fun v21=>
B1 (W0c v19 (Bo true) v21) fun v22=>
B1 (Gv false v22 (some v9)) fun v23=>
B1 (Gv false v22 (vbin .eql v23 (I .i64 17))) fun v24=>
B1 (W0c v22 (Bo true) v24) fun v25=>
Fin z rg.length [v25] r8
theorem S105:SE3 105 k105 s105:=fun _ _ _ _ _ _ _=>by kernel_rfl
def k110:KT:=(.n (.l [0,2]) (.n (.l [2]) (.l [])))
def s110:F1:=fun lp c z a0 rg=>
B2 (W08 [(.slice none 0 0),(.slice none 0 0),(.slice none 0 0),(.slice none 0 0),(.slice none 0 0),(.slice none 0 0),(.int .i64 0),(.slice none 0 0),(.slice none 0 0)] rg) fun v1 r2=>
B1 (W0a a0) fun v3=>
B1 (vfad 0 v3) fun v4=>
FL 0 v4 r2 fun v6=>
B1 (W0a a0) fun v7=>
B1 (vfad 0 v7) fun v8=>
B1 (vfad 0 v8) fun v9=>
L1 r2 v9 fun v10=>
B1 (W0a a0) fun v11=>
B1 (vfad 0 v11) fun v12=>
B1 (vfad 1 v12) fun v13=>
L1 r2 v13 fun v14=>
B1 (W0a a0) fun v15=>
B1 (vfad 0 v15) fun v16=>
B1 (vfad 1 v16) fun v17=>
L1 r2 v17 fun v18=>
B1 (W0a a0) fun v19=>
B1 (vfad 0 v19) fun v20=>
B1 (vfad 0 v20) fun v21=>
L1 r2 v21 fun v22=>
B1 (W0a a0) fun v23=>
B1 (vfad 0 v23) fun v24=>
B1 (vfad 0 v24) fun v25=>
L1 r2 v25 fun v26=>
B1 (W0a a0) fun v27=>
B1 (vfad 0 v27) fun v28=>
B1 (vfad 0 v28) fun v29=>
L1 r2 v29 fun v30=>
B2 (c (.fn 82) [v6] r2) fun v31 r32=>
L1 r32 v9 fun v33=>
Sm v33 v10 (
L1 r32 v13 fun v34=>
Sm v34 v14 (
L1 r32 v17 fun v35=>
Sm v35 v18 (
L1 r32 v21 fun v36=>
Sm v36 v22 (
L1 r32 v25 fun v37=>
Sm v37 v26 (
L1 r32 v29 fun v38=>
Sm v38 v30 (
B2 (c (.fn 186) [v10] r32) fun v39 r40=>
L1 r40 v13 fun v41=>
Sm v41 v14 (
L1 r40 v17 fun v42=>
Sm v42 v18 (
L1 r40 v21 fun v43=>
Sm v43 v22 (
L1 r40 v25 fun v44=>
Sm v44 v26 (
L1 r40 v29 fun v45=>
Sm v45 v30 (
B2 (c (.fn 83) [v14] r40) fun v46 r47=>
L1 r47 v17 fun v48=>
Sm v48 v18 (
L1 r47 v21 fun v49=>
Sm v49 v22 (
L1 r47 v25 fun v50=>
Sm v50 v26 (
L1 r47 v29 fun v51=>
Sm v51 v30 (
B2 (c (.fn 187) [v18] r47) fun v52 r53=>
L1 r53 v21 fun v54=>
Sm v54 v22 (
L1 r53 v25 fun v55=>
Sm v55 v26 (
L1 r53 v29 fun v56=>
Sm v56 v30 (
B2 (c (.fn 188) [v22] r53) fun v57 r58=>
L1 r58 v25 fun v59=>
Sm v59 v26 (
L1 r58 v29 fun v60=>
Sm v60 v30 (
B2 (c (.fn 189) [v26] r58) fun v61 r62=>
L1 r62 v29 fun v63=>
Sm v63 v30 (
B2 (c (.fn 190) [v30] r62) fun v64 r65=>
B1 (W06 [(.slice none 0 0),(.slice none 0 0),(.slice none 0 0),(.slice none 0 0),(.slice none 0 0),(.slice none 0 0),(.int .i64 0),(.slice none 0 0),(.slice none 0 0)] [(2,1,v31),(3,1,v39),(4,1,v46),(5,1,v52),(6,1,v57),(7,1,v61),(8,1,v64)]) fun v66=>
B0 (W03 r65 9 v1 v66) fun r67=>
Rc z rg.length (cons? (W0q v1 r67 9 true) (some [])) r67)))))))))))))))))))))
theorem S110:SE1 110 k110 s110:=fun _ _ _ _ _=>by kernel_rfl
def k111:KT:=(.n (.l [1,2]) (.n (.l [1,2]) (.n (.l [2]) (.l []))))
def s111:F1:=fun lp c z a0 rg=>
B2 (vbox a0 rg) fun v1 r2=>
B2 (W08 [(.int .i64 0),(.int .i64 0),(.int .i64 0),(.int .i64 0),(.int .i64 0),(.int .i64 0),(.int .i64 0),(.int .i64 0),(.int .i64 0),(.int .i64 0),(.int .i64 0),(.int .i64 0),(.int .i64 0),(.int .i64 0),(.int .i64 0),(.int .i64 0),(.int .i64 0),(.int .i64 0),(.slice none 0 0),(.slice none 0 0),(.slice none 0 0),(.int .i64 0)] r2) fun v3 r4=>
B1 (vfad 15 v1) fun v5=>
FL 3 v5 r4 fun v7=>
B1 (vfad 19 v1) fun v8=>
L1 r4 v8 fun v9=>
B1 (vfad 20 v1) fun v10=>
L1 r4 v10 fun v11=>
B2 (c (.fn 191) [v7] r4) fun v12 r13=>
L1 r13 v8 fun v14=>
Sm v14 v9 (
L1 r13 v10 fun v15=>
Sm v15 v11 (
B1 (vfad 15 v1) fun v16=>
B1 (vfad 3 v16) fun v17=>
B2 (c (.fn 192) [v9] r13) fun v18 r19=>
L1 r19 v10 fun v20=>
Sm v20 v11 (
B2 (c (.fn 191) [v11] r19) fun v21 r22=>
B0 (W03 r22 1 v17 v12) fun r23=>
B1 (vfad 19 v1) fun v24=>
B0 (W03 r23 1 v24 v18) fun r25=>
B1 (vfad 20 v1) fun v26=>
B0 (W03 r25 1 v26 v21) fun r27=>
B1 (W01 r27 22 true v1) fun v28=>
B0 (W03 r27 22 v3 v28) fun r29=>
Rc z rg.length (cons? (W0q v3 r29 22 true) (some [])) r29)))
theorem S111:SE1 111 k111 s111:=fun _ _ _ _ _=>by kernel_rfl
def V2z:KT:=(.n (.l [0,3,7,8,9]) (.n (.n (.l []) (.l [])) (.n (.n (.l [0,3,4,7,8]) (.n (.l [0,3,4,7,8]) (.l [0,3,7,8]))) (.l [0,3,7,8]))))
def k112:KT:=(.n (.l [0]) (.n (.l [0,3]) (.n (.n (.l [0,3,7,8]) V2z) (.n (.l [2]) (.l [])))))
def Wif:FB:=fun lp c n0 s=>
B1 (vbin .lss (s.g 8) (s.g 7)) fun v3=>
Cd (W00 v3) (
B2 (c (.fn 144) [(s.g 0)] s.regs) fun v4 r5=>
B1 (vext 0 v4) fun v6=>
B1 (vext 1 v4) fun v7=>
B2 (W08 [(.int .i64 0),(.int .i64 0),(.int .i64 0),(.int .i64 0),(.int .i64 0),(.int .i64 0),(.int .i64 0),(.int .i64 0)] r5) fun v8 r9=>
B0 (W03 r9 8 v8 v6) fun r10=>
B1 (W01 r10 8 true v8) fun v11=>
B2 (c (.fn 138) [(s.g 0),v11] r10) fun v12 r13=>
B1 (W01 r13 8 true v8) fun v14=>
B2 (W0x r13 8 1 [(.int .i64 0),(.int .i64 0),(.int .i64 0),(.int .i64 0),(.int .i64 0),(.int .i64 0),(.int .i64 0),(.int .i64 0)] [(0,v14)]) fun v15 r16=>
B2 (vapp r16 8 64 (s.g 3) v15) fun v17 r18=>
B1 (vbin .add (s.g 8) (I .i64 1)) fun v19=>
some (.normal,(⟨[(8,v19),(7,(s.g 7)),(3,v17),(0,(s.g 0))],r18⟩:St))) (
some ((.exit 0),(⟨[(9,v3),(8,(s.g 8)),(7,(s.g 7)),(3,(s.g 3)),(0,(s.g 0))],s.regs⟩:St)))
def s112:F1:=fun lp c z a0 rg=>
B2 (c (.fn 70) [a0] rg) fun v1 r2=>
B3 (lp (Wif lp c rg.length) (⟨[(8,(I .i64 0)),(7,v1),(3,(AV.c (.p (.v (.slice none 0 0))))),(0,a0)],r2⟩:St)) fun e20 s21=>X3 e20 (
none) (
Fin z rg.length [(lk s21.slots 2)] s21.regs) (fun i22=>
(bif Nat.beq i22 0 then (
Fin z rg.length [(s21.g 3)] s21.regs)else (
none)))
theorem S112:SE1 112 k112 s112:=fun _ _ _ _ _=>by kernel_rfl
def V30:KT:=(.n (.l [0,3,31,32,33]) (.n (.n (.l []) (.l [])) (.n (.n (.l [0,3,4,31,32]) (.n (.n (.l [0,3,4,31,32,41]) (.n (.n (.l [0,3,4,31,32]) (.n (.l [0,3,4,31,32]) (.l [0,3,4,31,32]))) (.l []))) (.l [0,3,31,32]))) (.l [0,3,31,32]))))
def k123:KT:=(.n (.l [0]) (.n (.n (.l [0,9]) (.n (.l [0]) (.l []))) (.n (.l [0,3]) (.n (.n (.l [0,3,31,32]) V30) (.n (.l [2]) (.l []))))))
def W3t:FB:=fun lp c n0 s=>
B1 (vbin .lss (s.g 32) (s.g 31)) fun v10=>
Cd (W00 v10) (
Jn (κ:=AV→AV→AV→AV→AV→List Reg→Option (Exit×St)) (fun j0_11 j3_11 j4_11 j31_11 j32_11 rj_11=>
B1 (W0a j0_11) fun v12=>
B1 (vfad 2 v12) fun v13=>
B1 (vfad 1 v13) fun v14=>
B1 (vixa 4 1 j4_11 v14) fun v15=>
L1 rj_11 v15 fun v16=>
B1 (W0a j0_11) fun v17=>
B1 (vfad 2 v17) fun v18=>
B1 (vfad 5 v18) fun v19=>
B1 (vixa 4 1 j4_11 v19) fun v20=>
L1 rj_11 v20 fun v21=>
B1 (vbin .xor v16 v21) fun v22=>
B1 (vbin .xor j3_11 v22) fun v23=>
B1 (vbin .add j32_11 (I .i64 1)) fun v24=>
some (.normal,(⟨[(32,v24),(31,j31_11),(3,v23),(0,j0_11)],rj_11⟩:St))) fun k_11=>
B1 (W0a (s.g 0)) fun v25=>
B1 (vfad 2 v25) fun v26=>
B1 (vfad 10 v26) fun v27=>
B1 (vixa 4 1 (s.g 32) v27) fun v28=>
L1 s.regs v28 fun v29=>
Cd (W00 v29) (
B1 (W0a (s.g 0)) fun v30=>
FL 25 v30 s.regs fun v32=>
B1 (vixs 22 (s.g 32) v32) fun v33=>
B1 (W01 s.regs 22 true v33) fun v34=>
B1 (W0a (s.g 0)) fun v35=>
B1 (vfad 2 v35) fun v36=>
B1 (vfad 1 v36) fun v37=>
B2 (c (.fn 211) [v34] s.regs) fun v38 r39=>
B2 (c (.fn 209) [(s.g 32),v38] r39) fun v40 r41=>
B1 (vixa 4 1 (s.g 32) v37) fun v42=>
B0 (W03 r41 1 v42 v40) fun r43=>
B1 (vbin .add (I .i64 64) (s.g 32)) fun v44=>
B1 (W0a (s.g 0)) fun v45=>
FL 26 v45 r43 fun v47=>
B1 (vixs 1 (s.g 32) v47) fun v48=>
L1 r43 v48 fun v49=>
B1 (W0a (s.g 0)) fun v50=>
B1 (vfad 2 v50) fun v51=>
B1 (vfad 5 v51) fun v52=>
B2 (c (.fn 112) [v49] r43) fun v53 r54=>
B2 (c (.fn 212) [v53] r54) fun v55 r56=>
B2 (c (.fn 209) [v44,v55] r56) fun v57 r58=>
B1 (vixa 4 1 (s.g 32) v52) fun v59=>
B0 (W03 r58 1 v59 v57) fun r60=>
B1 (W0a (s.g 0)) fun v61=>
B1 (vfad 2 v61) fun v62=>
B1 (vfad 10 v62) fun v63=>
B1 (vixa 4 1 (s.g 32) v63) fun v64=>
B0 (W03 r60 1 v64 (Bo false)) fun r65=>
k_11 (s.g 0) (s.g 3) (s.g 32) (s.g 31) (s.g 32) r65) (
k_11 (s.g 0) (s.g 3) (s.g 32) (s.g 31) (s.g 32) s.regs)) (
some ((.exit 0),(⟨[(33,v10),(32,(s.g 32)),(31,(s.g 31)),(3,(s.g 3)),(0,(s.g 0))],s.regs⟩:St)))
def s123:F1:=fun lp c z a0 rg=>
Jn (κ:=AV→List Reg→Option (AV×List Reg)) (fun j0_1 rj_1=>
B1 (W0a j0_1) fun v2=>
B1 (vfad 2 v2) fun v3=>
FL 0 v3 rj_1 fun v5=>
B1 (W0a j0_1) fun v6=>
FL 25 v6 rj_1 fun v8=>
B1 (vlen v8) fun v9=>
B3 (lp (W3t lp c rg.length) (⟨[(32,(I .i64 0)),(31,v9),(3,v5),(0,j0_1)],rj_1⟩:St)) fun e66 s67=>X3 e66 (
none) (
Fin z rg.length [(lk s67.slots 2)] s67.regs) (fun i68=>
(bif Nat.beq i68 0 then (
Fin z rg.length [(s67.g 3)] s67.regs)else (
none)))) fun k_1=>
B1 (W0a a0) fun v70=>
B1 (vfad 2 v70) fun v71=>
FL 9 v71 rg fun v73=>
Cd (W00 v73) (
B2 (c (.fn 110) [a0] rg) fun v74 r75=>
B2 (c (.fn 210) [v74] r75) fun v76 r77=>
B2 (c (.fn 209) [(I .i64 128),v76] r77) fun v78 r79=>
B1 (W0a a0) fun v80=>
B1 (vfad 2 v80) fun v81=>
B1 (vfad 0 v81) fun v82=>
B0 (W03 r79 1 v82 v78) fun r83=>
B1 (W0a a0) fun v84=>
B1 (vfad 2 v84) fun v85=>
B1 (vfad 9 v85) fun v86=>
B0 (W03 r83 1 v86 (Bo false)) fun r87=>
k_1 a0 r87) (
k_1 a0 rg)
theorem S123:SE1 123 k123 s123:=fun _ _ _ _ _=>by kernel_rfl
def k128:KT:=(.n (.l [0,1]) (.n (.l [4]) (.l [])))
def s128:F2:=fun lp c z a0 a1 rg=>
B2 (c (.fn 217) [a0,a1] rg) fun v1 r2=>
B1 (vbin .geq v1 (I .i64 0)) fun v3=>
Fin z rg.length [v3] r2
theorem S128:SE2 128 k128 s128:=fun _ _ _ _ _ _=>by kernel_rfl
def k129:KT:=(.n (.l [0]) (.n (.l [2]) (.l [])))
def s129:F1:=fun lp c z a0 rg=>
B1 (vlen a0) fun v1=>
B1 (vbin .gtr v1 (I .i64 16)) fun v2=>
Fin z rg.length [v2] rg
theorem S129:SE1 129 k129 s129:=fun _ _ _ _ _=>by kernel_rfl
def V31:KT:=(.n (.l [2,4,7,23,24,25]) (.n (.n (.l []) (.l [])) (.n (.n (.l [2,4,7,8,9,23,24]) (.n (.l [2,4,7,23,24,35]) (.n (.n (.l [6]) (.l [])) (.l [])))) (.l [2,4,7,23,24]))))
def k130:KT:=(.n (.l [2,3,4]) (.n (.l [2,3,4,7]) (.n (.n (.l [2,3,4,7,14]) (.n (.n (.l [6]) (.l [])) (.l []))) (.n (.n (.l [2,4,7,23,24]) V31) (.n (.l [6]) (.l []))))))
def W6b:FB:=fun lp c n0 s=>
B1 (vbin .lss (s.g 24) (I .i64 4)) fun v19=>
Cd (W00 v19) (
B1 (vixv 4 1 false (s.g 24) (s.g 23)) fun v20=>
B1 (vixt (s.g 7) (s.g 24)) fun v21=>
B1 (W01 s.regs 4 true (s.g 4)) fun v22=>
B2 (c (.fn 219) [v21,v20,v22,(s.g 2)] s.regs) fun v23 r24=>
B1 (vun .not v23) fun v25=>
Cd (W00 v25) (
some (.ret,(⟨[(6,(I .i64 3))],r24⟩:St))) (
B1 (vbin .add (s.g 24) (I .i64 1)) fun v26=>
some (.normal,(⟨[(24,v26),(23,(s.g 23)),(7,(s.g 7)),(4,(s.g 4)),(2,(s.g 2))],r24⟩:St)))) (
some ((.exit 0),(⟨[(25,v19),(24,(s.g 24)),(23,(s.g 23)),(7,(s.g 7)),(4,(s.g 4)),(2,(s.g 2))],s.regs⟩:St)))
def s130:F3:=fun lp c z a0 a1 a2 rg=>
B2 (vbox a0 rg) fun v1 r2=>
B2 (vbox a1 r2) fun v3 r4=>
FL 0 v1 r4 fun v6=>
B2 (c (.fn 218) [v6] r4) fun v7 r8=>
B1 (vbin .eql v7 (AV.c (.p (.v (.string ⟨#[]⟩))))) fun v9=>
Cd (W00 v9) (
Fin z rg.length [(I .i64 2)] r8) (
FL 1 v1 r8 fun v11=>
FL 2 v1 r8 fun v13=>
FL 3 v1 r8 fun v15=>
FL 4 v1 r8 fun v17=>
B1 (W06 [(.int .i64 0),(.int .i64 0),(.int .i64 0),(.int .i64 0)] [(0,1,v11),(1,1,v13),(2,1,v15),(3,1,v17)]) fun v18=>
B3 (lp (W6b lp c rg.length) (⟨[(24,(I .i64 0)),(23,v18),(7,v7),(4,v3),(2,a2)],r8⟩:St)) fun e27 s28=>X3 e27 (
none) (
Fin z rg.length [(lk s28.slots 6)] s28.regs) (fun i29=>
(bif Nat.beq i29 0 then (
Fin z rg.length [(I .i64 0)] s28.regs)else (
none))))
theorem S130:SE3 130 k130 s130:=fun _ _ _ _ _ _ _=>by kernel_rfl
def k131:KT:=(.n (.l [1]) (.n (.l [2]) (.l [])))
def s131:F1:=fun lp c z a0 rg=>
B2 (vbox a0 rg) fun v1 r2=>
B1 (W01 r2 4 true v1) fun v3=>
B2 (c (.fn 221) [v3] r2) fun v4 r5=>
B2 (c (.fn 220) [v4] r5) fun v6 r7=>
Fin z rg.length [v6] r7
theorem S131:SE1 131 k131 s131:=fun _ _ _ _ _=>by kernel_rfl
def k132:KT:=(.n (.l [1]) (.n (.l [2]) (.l [])))
def s132:F1:=fun lp c z a0 rg=>
B2 (vbox a0 rg) fun v1 r2=>
FL 0 v1 r2 fun v4=>
B2 (c (.fn 71) [v4,(I .i64 1),(I .i64 8)] r2) fun v5 r6=>
B1 (Gv true v5 (vfad 0 v1)) fun v7=>
B1 (Gv true v5 (W01 r6 1 false v7)) fun v8=>
B1 (Gv true v5 (vbin .neq v8 (I .i64 2))) fun v9=>
B1 (W0c v5 v9 (Bo false)) fun v10=>
B1 (Gv true v10 (vfad 0 v1)) fun v11=>
B1 (Gv true v10 (W01 r6 1 false v11)) fun v12=>
B1 (Gv true v10 (vbin .neq v12 (I .i64 4))) fun v13=>
B1 (W0c v10 v13 (Bo false)) fun v14=>
Fin z rg.length [v14] r6
theorem S132:SE1 132 k132 s132:=fun _ _ _ _ _=>by kernel_rfl
def k133:KT:=(.n (.l [0,1,2]) (.n (.n (.l [0,1,2,9]) (.n (.n (.l [6]) (.l [])) (.l []))) (.n (.l [6]) (.l []))))
def s133:F3:=fun lp c z a0 a1 a2 rg=>
B1 (vbin .lss a0 a1) fun v1=>
Cd (W00 v1) (
Fin z rg.length [a1] rg) (
B1 (vmm false a0 a2) fun v2=>
Fin z rg.length [v2] rg)
theorem S133:SE3 133 k133 s133:=fun _ _ _ _ _ _ _=>by kernel_rfl
def k134:KT:=(.n (.l [0]) (.n (.n (.l [0,4]) (.n (.n (.l [2]) (.l [])) (.l []))) (.n (.l [2]) (.l []))))
def s134:F1:=fun lp c z a0 rg=>
B2 (xE (.nilq 1 false) [a0] rg) fun v1 r2=>
Cd (W00 v1) (
Fin z rg.length [(AV.c (.p (.v (.slice none 0 0))))] r2) (
B2 (W0x r2 5 0 [(.int .i64 0),(.int .i64 0),(.int .i64 0),(.int .i64 0),(.int .i64 0)] []) fun v3 r4=>
B2 (vapp r4 5 40 v3 a0) fun v5 r6=>
Fin z rg.length [v5] r6)
theorem S134:SE1 134 k134 s134:=fun _ _ _ _ _=>by kernel_rfl
def k135:KT:=(.n (.l [0]) (.n (.l [2]) (.l [])))
def s135:F1:=fun lp c z a0 rg=>
B2 (xE (.nilq 0 false) [a0] rg) fun v1 r2=>
B1 (Gv false v1 (some a0)) fun v3=>
B1 (Gv false v1 (W0a v3)) fun v4=>
B1 (Gv false v1 (vfad 0 v4)) fun v5=>
B1 (Gv false v1 (W01 r2 1 false v5)) fun v6=>
B2 (Gr false v1 r2 (xE (.nilq 3 false) [v6] r2)) fun v7 r8=>
B1 (W0c v1 (Bo true) v7) fun v9=>
Fin z rg.length [v9] r8
theorem S135:SE1 135 k135 s135:=fun _ _ _ _ _=>by kernel_rfl
def k136:KT:=(.n (.l [0,1,3,6,8]) (.n (.n (.l [0,6,8,9,10]) (.n (.l [0,6,8,9,24]) (.n (.n (.l [8]) (.l [])) (.l [])))) (.n (.l [8]) (.l []))))
def s136:F4:=fun lp c z a0 a1 a2 a3 rg=>
B2 (vbox a2 rg) fun v1 r2=>
B2 (W08 [(.int .i64 0),(.int .i64 0),(.int .i64 0)] r2) fun v3 r4=>
B1 (W0a a0) fun v5=>
FL 26 v5 r4 fun v7=>
B1 (vixs 1 a1 v7) fun v8=>
L1 r4 v8 fun v9=>
B1 (W01 r4 3 true v1) fun v10=>
B2 (c (.fn 222) [v9,v10,a3] r4) fun v11 r12=>
B1 (vext 0 v11) fun v13=>
B1 (vext 1 v11) fun v14=>
B2 (W08 [(.int .i64 0),(.int .i64 0),(.int .i64 0)] r12) fun v15 r16=>
B0 (W03 r16 3 v15 v13) fun r17=>
Cd (W00 v14) (
B1 (W01 r17 3 true v15) fun v18=>
B0 (W03 r17 3 v3 v18) fun r19=>
Rc z rg.length (cons? (W0q v3 r19 3 true) (some [])) r19) (
B1 (W0a a0) fun v20=>
B1 (vfad 0 v20) fun v21=>
B1 (W01 r17 2 true v21) fun v22=>
B1 (W01 r17 3 true v1) fun v23=>
B2 (c (.fn 223) [v22,v23] r17) fun v24 r25=>
B0 (W03 r25 3 v3 v24) fun r26=>
Rc z rg.length (cons? (W0q v3 r26 3 true) (some [])) r26)
theorem S136:SE4 136 k136 s136:=fun _ _ _ _ _ _ _ _=>by kernel_rfl
def k137:KT:=(.n (.l [1,3,4,6,8]) (.n (.n (.l [1,3,4,6,8,31]) (.n (.n (.l [8]) (.l [])) (.l []))) (.n (.l [1,3,4,6,8,9,10]) (.n (.n (.l [1,3,4,6,8,9,43]) (.n (.n (.l [8]) (.l [])) (.n (.l [1,3,6,8,9,51]) (.n (.n (.l [8]) (.l [])) (.l []))))) (.n (.l [8]) (.l []))))))
def s137:F4:=fun lp c z a0 a1 a2 a3 rg=>
B2 (vbox a0 rg) fun v1 r2=>
B2 (vbox a2 r2) fun v3 r4=>
B2 (W08 [(.int .i64 0),(.int .i64 0),(.int .i64 0),(.int .i64 0),(.int .i64 0),(.int .i64 0),(.int .i64 0),(.int .i64 0),(.int .i64 0),(.int .i64 0),(.int .i64 0),(.int .i64 0),(.int .i64 0),(.int .i64 0)] r4) fun v5 r6=>
B1 (W01 r6 4 true v1) fun v7=>
B2 (c (.fn 59) [v7] r6) fun v8 r9=>
B1 (vbin .neq v8 (I .i64 0)) fun v10=>
B1 (Gv false v10 (some a1)) fun v11=>
B1 (Gv false v10 (vfad 3 v1)) fun v12=>
B1 (Gv false v10 (W01 r9 1 false v12)) fun v13=>
B1 (Gv false v10 (vlen v13)) fun v14=>
B1 (Gv false v10 (vbin .sub v14 (I .i64 1))) fun v15=>
B2 (Gr false v10 r9 (c (.fn 71) [v11,(I .i64 0),v15] r9)) fun v16 r17=>
B1 (Gv false v10 (vun .not v16)) fun v18=>
B1 (W0c v10 (Bo true) v18) fun v19=>
B1 (Gv false v19 (W01 r17 22 true v3)) fun v20=>
B1 (Gv false v19 (vfad 3 v1)) fun v21=>
B1 (Gv false v19 (W01 r17 1 false v21)) fun v22=>
B1 (Gv false v19 (some a1)) fun v23=>
B1 (Gv false v19 (vixs 1 v23 v22)) fun v24=>
B1 (Gv false v19 (W01 r17 1 false v24)) fun v25=>
B2 (Gr false v19 r17 (c (.fn 69) [v20,v25] r17)) fun v26 r27=>
B1 (W0c v19 (Bo true) v26) fun v28=>
Cd (W00 v28) (
B1 (W06 [(.int .i64 0),(.int .i64 0),(.int .i64 0),(.int .i64 0),(.int .i64 0),(.int .i64 0),(.int .i64 0),(.int .i64 0),(.int .i64 0),(.int .i64 0),(.int .i64 0),(.int .i64 0),(.int .i64 0),(.int .i64 0)] []) fun v29=>
B0 (W03 r27 14 v5 v29) fun r30=>
Rc z rg.length (cons? (W0q v5 r30 14 true) (some [])) r30) (
B1 (W01 r27 22 true v3) fun v31=>
FL 3 v1 r27 fun v33=>
B1 (vixs 1 a1 v33) fun v34=>
L1 r27 v34 fun v35=>
B2 (c (.fn 140) [v31,v35] r27) fun v36 r37=>
B1 (vext 0 v36) fun v38=>
B1 (vext 1 v36) fun v39=>
B2 (W08 [(.int .i64 0),(.int .i64 0),(.int .i64 0),(.int .i64 0),(.int .i64 0)] r37) fun v40 r41=>
B0 (W03 r41 5 v40 v38) fun r42=>
B1 (vun .not v39) fun v43=>
Cd (W00 v43) (
B1 (W01 r42 4 true v1) fun v44=>
B1 (vfad 15 v3) fun v45=>
B1 (W01 r42 4 true v45) fun v46=>
B2 (c (.fn 224) [v44,a1,v46] r42) fun v47 r48=>
B0 (W03 r48 14 v5 v47) fun r49=>
Rc z rg.length (cons? (W0q v5 r49 14 true) (some [])) r49) (
FL 0 v40 r42 fun v51=>
B2 (c (.fn 225) [v51] r42) fun v52 r53=>
B1 (vun .not v52) fun v54=>
B1 (Gv true v54 (vfad 0 v40)) fun v55=>
B1 (Gv true v54 (W01 r53 1 false v55)) fun v56=>
B1 (Gv true v54 (vbin .neq v56 (I .i64 17))) fun v57=>
B1 (W0c v54 v57 (Bo false)) fun v58=>
Cd (W00 v58) (
B1 (W06 [(.int .i64 0),(.int .i64 0),(.int .i64 0),(.int .i64 0),(.int .i64 0),(.int .i64 0),(.int .i64 0),(.int .i64 0),(.int .i64 0),(.int .i64 0),(.int .i64 0),(.int .i64 0),(.int .i64 0),(.int .i64 0)] [(0,1,(I .i64 1))]) fun v59=>
B0 (W03 r53 14 v5 v59) fun r60=>
Rc z rg.length (cons? (W0q v5 r60 14 true) (some [])) r60) (
B1 (W01 r53 22 true v3) fun v61=>
B1 (W01 r53 5 true v40) fun v62=>
B2 (c (.fn 226) [a1,v61,v62,a3] r53) fun v63 r64=>
B0 (W03 r64 14 v5 v63) fun r65=>
Rc z rg.length (cons? (W0q v5 r65 14 true) (some [])) r65)))
theorem S137:SE4 137 k137 s137:=fun _ _ _ _ _ _ _ _=>by kernel_rfl
def k138:KT:=(.n (.l [0,3]) (.n (.l [4]) (.l [])))
def s138:F2:=fun lp c z a0 a1 rg=>
B2 (vbox a1 rg) fun v1 r2=>
B2 (c (.fn 135) [a0] r2) fun v3 r4=>
B1 (vun .not v3) fun v5=>
B1 (Gv true v5 (some a0)) fun v6=>
B1 (Gv true v5 (W0a v6)) fun v7=>
B1 (Gv true v5 (vfad 0 v7)) fun v8=>
B1 (Gv true v5 (W01 r4 1 false v8)) fun v9=>
B1 (Gv true v5 (W01 r4 8 true v1)) fun v10=>
B2 (Gr true v5 r4 (c (.fn 227) [v9,v10] r4)) fun v11 r12=>
B1 (W0c v5 v11 (Bo false)) fun v13=>
Fin z rg.length [v13] r12
theorem S138:SE2 138 k138 s138:=fun _ _ _ _ _ _=>by kernel_rfl
def k139:KT:=(.n (.l [0]) (.n (.l [2]) (.l [])))
def s139:F1:=fun lp c z a0 rg=>
B2 (xE (.nilq 0 false) [a0] rg) fun v1 r2=>
B1 (Gv false v1 (some a0)) fun v3=>
B1 (Gv false v1 (W0a v3)) fun v4=>
B1 (Gv false v1 (vfad 1 v4)) fun v5=>
B1 (Gv false v1 (W01 r2 1 false v5)) fun v6=>
B2 (Gr false v1 r2 (xE (.nilq 2 false) [v6] r2)) fun v7 r8=>
B1 (W0c v1 (Bo true) v7) fun v9=>
Fin z rg.length [v9] r8
theorem S139:SE1 139 k139 s139:=fun _ _ _ _ _=>by kernel_rfl
def k140:KT:=(.n (.l [1,2,4]) (.n (.n (.l [1,2,4,14]) (.n (.n (.l [4,5]) (.l [])) (.l []))) (.n (.l [4,5]) (.l []))))
def s140:F2:=fun lp c z a0 a1 rg=>
B2 (vbox a0 rg) fun v1 r2=>
B2 (W08 [(.int .i64 0),(.int .i64 0),(.int .i64 0),(.int .i64 0),(.int .i64 0)] r2) fun v3 r4=>
B1 (W01 r4 22 true v1) fun v5=>
B2 (c (.fn 69) [v5,a1] r4) fun v6 r7=>
B1 (Gv false v6 (vfad 15 v1)) fun v8=>
B1 (Gv false v6 (vfad 0 v8)) fun v9=>
B1 (Gv false v6 (W01 r7 1 false v9)) fun v10=>
B1 (Gv false v6 (vbin .neq v10 (I .i64 0))) fun v11=>
B1 (W0c v6 (Bo true) v11) fun v12=>
Cd (W00 v12) (
B1 (W06 [(.int .i64 0),(.int .i64 0),(.int .i64 0),(.int .i64 0),(.int .i64 0)] []) fun v13=>
B0 (W03 r7 5 v3 v13) fun r14=>
Rc z rg.length (cons? (W0q v3 r14 5 true) (cons? (some (Bo false)) (some []))) r14) (
FL 0 v1 r7 fun v16=>
B1 (vixs 5 v16 a1) fun v17=>
B1 (W01 r7 5 true v17) fun v18=>
B0 (W03 r7 5 v3 v18) fun r19=>
Rc z rg.length (cons? (W0q v3 r19 5 true) (cons? (some (Bo true)) (some []))) r19)
theorem S140:SE2 140 k140 s140:=fun _ _ _ _ _ _=>by kernel_rfl
def k142:KT:=(.n (.l [0,1,5,8,9,10,12]) (.n (.n (.l [0,1,5,8,9,10,12,14]) (.n (.l [0,1,5,8,9,10,12,14,33]) (.n (.n (.l [12,13]) (.l [])) (.l [])))) (.n (.n (.l [0,1,5,8,9,10,12,37]) (.n (.l [0,1,5,8,9,10,12,37,38]) (.n (.l [8,12]) (.n (.l [0,1,5,8,9,10,12,37,46]) (.n (.n (.l [8,9,12,15]) (.n (.n (.l [8,9,12,15,57]) (.n (.n (.l [8,12]) (.l [])) (.l []))) (.l [8,12]))) (.n (.l [0,1,5,8,9,10,12,37,67]) (.n (.n (.l [0,8,9,12]) (.n (.l [0,8,12,76]) (.n (.l [8,12]) (.l [])))) (.n (.l [0,1,5,8,9,10,12,37,83]) (.n (.n (.l [8,9,12,16,17]) (.n (.n (.l [8,9,12,16,17,92]) (.n (.n (.l [12,13]) (.l [])) (.l []))) (.n (.l [8,9,12,16,18]) (.n (.n (.l [8,9,12,18,95]) (.n (.l [8,9,12,18]) (.l []))) (.l [8,12]))))) (.n (.l [0,1,5,8,9,10,12,37,102]) (.n (.n (.l [8,9,12,19]) (.l [8,12])) (.n (.l [0,8,10,12,37,120]) (.n (.l [8,12]) (.n (.l [0,8,10,12,131]) (.n (.n (.l [0,8,10,12]) (.n (.l [0,8,12]) (.l [8,12]))) (.l [])))))))))))))))) (.n (.l [12,13]) (.l [])))))
def s142:F6:=fun lp c z a0 a1 a2 a3 a4 a5 rg=>
B2 (vbox a2 rg) fun v1 r2=>
B2 (vbox a3 r2) fun v3 r4=>
B2 (vbox a4 r4) fun v5 r6=>
B2 (W08 [(.int .i64 0),(.int .i64 0),(.int .i64 0),(.int .i64 0),(.int .i64 0),(.int .i64 0),(.int .i64 0),(.int .i64 0),(.int .i64 0),(.int .i64 0),(.int .i64 0),(.int .i64 0),(.int .i64 0),(.int .i64 0),(.int .i64 0),(.int .i64 0),(.int .i64 0),(.int .i64 0),(.slice none 0 0),(.slice none 0 0),(.slice none 0 0),(.int .i64 0)] r6) fun v7 r8=>
B1 (vfad 0 v3) fun v9=>
L1 r8 v9 fun v10=>
B1 (W0a a0) fun v11=>
B1 (vfad 0 v11) fun v12=>
FL 1 v12 r8 fun v14=>
B1 (vfad 4 v5) fun v15=>
B1 (W01 r8 3 true v15) fun v16=>
B2 (c (.fn 145) [v14,v16] r8) fun v17 r18=>
L1 r18 v9 fun v19=>
Sm v19 v10 (
B2 (c (.fn 233) [v10,v17] r18) fun v20 r21=>
B1 (vbin .neq v20 (I .i64 0)) fun v22=>
Cd (W00 v22) (
B1 (W01 r21 22 true v1) fun v23=>
B0 (W03 r21 22 v7 v23) fun r24=>
Rc z rg.length (cons? (W0q v7 r24 22 true) (cons? (some v20) (some []))) r24) (
Jn (κ:=AV→AV→List Reg→Option (AV×List Reg)) (fun j8_25 j12_25 rj_25=>
B1 (W01 rj_25 22 true j8_25) fun v26=>
B0 (W03 rj_25 22 j12_25 v26) fun r27=>
Rc z rg.length (cons? (W0q j12_25 r27 22 true) (cons? (some (I .i64 0)) (some []))) r27) fun k_25=>
FL 0 v5 r21 fun v29=>
B1 (vbin .eql v29 (I .i64 1)) fun v30=>
Cd (W00 v30) (
B1 (W01 r21 22 true v1) fun v31=>
B1 (W01 r21 5 true v3) fun v32=>
B2 (c (.fn 234) [v31,v32] r21) fun v33 r34=>
B1 (vext 0 v33) fun v35=>
B1 (vext 1 v33) fun v36=>
B0 (W03 r34 22 v1 v35) fun r37=>
k_25 v1 v7 r37) (
B1 (vbin .eql v29 (I .i64 2)) fun v38=>
Cd (W00 v38) (
B1 (vfad 1 v5) fun v39=>
B1 (W01 r21 3 true v39) fun v40=>
FL 13 v5 r21 fun v42=>
B2 (c (.fn 136) [a0,a1,v40,v42] r21) fun v43 r44=>
B2 (W08 [(.int .i64 0),(.int .i64 0),(.int .i64 0)] r44) fun v45 r46=>
B0 (W03 r46 3 v45 v43) fun r47=>
FL 0 v3 r47 fun v49=>
B1 (vbin .eql v49 (I .i64 23)) fun v50=>
Cd (W00 v50) (
FL 0 v45 r47 fun v52=>
B1 (W06 [(.int .i64 0),(.int .i64 0),(.int .i64 0),(.slice none 0 0)] [(0,1,(I .i64 1)),(2,1,v52)]) fun v53=>
B1 (vfad 15 v1) fun v54=>
B0 (W03 r47 4 v54 v53) fun r55=>
k_25 v1 v7 r55) (
B1 (W01 r47 22 true v1) fun v56=>
FL 1 v3 r47 fun v58=>
B1 (W01 r47 3 true v45) fun v59=>
B2 (c (.fn 235) [v56,v58,v59] r47) fun v60 r61=>
B0 (W03 r61 22 v1 v60) fun r62=>
k_25 v1 v7 r62)) (
B1 (vbin .eql v29 (I .i64 3)) fun v63=>
Cd (W00 v63) (
B1 (W01 r21 14 true v5) fun v64=>
B2 (c (.fn 228) [a0,a1,v64,a5] r21) fun v65 r66=>
FL 0 v3 r66 fun v68=>
B1 (vbin .eql v68 (I .i64 25)) fun v69=>
Cd (W00 v69) (
B1 (W0a a0) fun v70=>
B1 (vfad 20 v70) fun v71=>
B1 (W01 r66 5 true v71) fun v72=>
B1 (W01 r66 22 true v1) fun v73=>
B2 (c (.fn 236) [v72,v73] r66) fun v74 r75=>
B0 (W03 r75 22 v1 v74) fun r76=>
k_25 v1 v7 r76) (
k_25 v1 v7 r66)) (
B1 (vbin .eql v29 (I .i64 4)) fun v77=>
Cd (W00 v77) (
B1 (W01 r21 14 true v5) fun v78=>
B2 (c (.fn 237) [a0,v78] r21) fun v79 r80=>
B1 (vext 0 v79) fun v81=>
B1 (vext 1 v79) fun v82=>
B1 (vbin .neq v82 (I .i64 0)) fun v83=>
Cd (W00 v83) (
B1 (W01 r80 22 true v1) fun v84=>
B0 (W03 r80 22 v7 v84) fun r85=>
Rc z rg.length (cons? (W0q v7 r85 22 true) (cons? (some v82) (some []))) r85) (
Jn (κ:=AV→AV→AV→AV→List Reg→Option (AV×List Reg)) (fun j8_86 j9_86 j12_86 j18_86 rj_86=>
B1 (W01 rj_86 22 true j8_86) fun v87=>
B1 (vfad 1 j9_86) fun v88=>
L1 rj_86 v88 fun v89=>
B2 (c (.fn 238) [j18_86] rj_86) fun v90 r91=>
B1 (W01 r91 22 true j8_86) fun v92=>
Sm v92 v87 (
L1 r91 v88 fun v93=>
Sm v93 v89 (
B2 (c (.fn 235) [v87,v89,v90] r91) fun v94 r95=>
B0 (W03 r95 22 j8_86 v94) fun r96=>
k_25 j8_86 j12_86 r96))) fun k_86=>
Cd (W00 v81) (
k_86 v1 v3 v7 (I .i64 1) r80) (
k_86 v1 v3 v7 (I .i64 0) r80))) (
B1 (vbin .eql v29 (I .i64 6)) fun v97=>
Cd (W00 v97) (
B1 (W0a a0) fun v98=>
B1 (vfad 0 v98) fun v99=>
FL 1 v99 r21 fun v101=>
B2 (c (.fn 239) [v101,a1,a5] r21) fun v102 r103=>
B1 (vext 0 v102) fun v104=>
B1 (vext 1 v102) fun v105=>
B2 (W08 [(.int .i64 0),(.int .i64 0),(.int .i64 0)] r103) fun v106 r107=>
B0 (W03 r107 3 v106 v104) fun r108=>
B1 (W01 r108 22 true v1) fun v109=>
FL 1 v3 r108 fun v111=>
B1 (W01 r108 3 true v106) fun v112=>
B2 (c (.fn 235) [v109,v111,v112] r108) fun v113 r114=>
B0 (W03 r114 22 v1 v113) fun r115=>
k_25 v1 v7 r115) (
B1 (vbin .eql v29 (I .i64 7)) fun v116=>
Cd (W00 v116) (
B1 (W0a a0) fun v117=>
B1 (vfad 0 v117) fun v118=>
FL 1 v118 r21 fun v120=>
B1 (vfad 4 v5) fun v121=>
FL 1 v121 r21 fun v123=>
B2 (c (.fn 231) [v120,v123] r21) fun v124 r125=>
k_25 v1 v7 r125) (
B1 (vbin .eql v29 (I .i64 8)) fun v126=>
Cd (W00 v126) (
B1 (W0a a0) fun v127=>
B1 (vfad 0 v127) fun v128=>
FL 1 v128 r21 fun v130=>
B1 (vfad 4 v5) fun v131=>
FL 1 v131 r21 fun v133=>
B2 (c (.fn 240) [v130,v133] r21) fun v134 r135=>
B1 (vfad 19 v1) fun v136=>
L1 r135 v136 fun v137=>
B1 (vfad 4 v5) fun v138=>
B1 (vfad 1 v138) fun v139=>
L1 r135 v139 fun v140=>
B1 (vfad 4 v5) fun v141=>
B1 (vfad 2 v141) fun v142=>
L1 r135 v142 fun v143=>
B1 (W06 [(.int .i64 0),(.int .i64 0),(.int .i64 0)] [(0,1,v140),(1,1,v143)]) fun v144=>
BS (Wtb (B2 (c (.fn 192) [v137] r135) fun v145 r146=>
L1 r146 v139 fun v147=>
Sm v147 v140 (
L1 r146 v142 fun v148=>
Sm v148 v143 (
B2 (W0x r146 3 1 [(.int .i64 0),(.int .i64 0),(.int .i64 0)] [(0,v144)]) fun v149 r150=>
B2 (vapp r150 3 24 v145 v149) fun v151 r152=>
B1 (vfad 19 v1) fun v153=>
B0 (W03 r152 1 v153 v151) fun r154=>
some (⟨[(12,v7),(8,v1),(0,a0)],r154⟩:St)))) (B2 (W0x r135 3 1 [(.int .i64 0),(.int .i64 0),(.int .i64 0)] [(0,v144)]) fun v155 r156=>
L1 r156 v136 fun v157=>
Sm v157 v137 (
B2 (c (.fn 192) [v137] r156) fun v158 r159=>
B2 (vapp r159 3 24 v158 v155) fun v160 r161=>
B1 (vfad 19 v1) fun v162=>
B0 (W03 r161 1 v162 v160) fun r163=>
some (⟨[(12,v7),(8,v1),(0,a0)],r163⟩:St)))) fun s164=>
B1 (W0a (s164.g 0)) fun v165=>
B1 (vfad 16 v165) fun v166=>
B1 (W01 s164.regs 4 true v166) fun v167=>
B1 (W0a (s164.g 0)) fun v168=>
B1 (vfad 20 v168) fun v169=>
B1 (W01 s164.regs 5 true v169) fun v170=>
B1 (W01 s164.regs 22 true (s164.g 8)) fun v171=>
B2 (c (.fn 241) [v167,v170,v171] s164.regs) fun v172 r173=>
B1 (vfad 15 (s164.g 8)) fun v174=>
B0 (W03 r173 4 v174 v172) fun r175=>
k_25 (s164.g 8) (s164.g 12) r175) (
k_25 v1 v7 r21)))))))))
theorem S142:SE6 142 k142 s142:=fun _ _ _ _ _ _ _ _ _ _=>by kernel_rfl
def k143:KT:=(.n (.l [1,2]) (.n (.l [1,2]) (.n (.l [1,2]) (.n (.l [1,2]) (.n (.l [2]) (.l []))))))
def s143:F1:=fun lp c z a0 rg=>
B2 (vbox a0 rg) fun v1 r2=>
B2 (W08 [(.int .i64 0),(.int .i64 0),(.int .i64 0),(.int .i64 0),(.int .i64 0),(.int .i64 0),(.int .i64 0),(.int .i64 0),(.int .i64 0),(.int .i64 0),(.int .i64 0),(.int .i64 0),(.int .i64 0),(.int .i64 0),(.int .i64 0),(.int .i64 0),(.int .i64 0),(.int .i64 0),(.slice none 0 0),(.slice none 0 0),(.slice none 0 0),(.int .i64 0)] r2) fun v3 r4=>
B1 (W01 r4 22 true v1) fun v5=>
B2 (c (.fn 111) [v5] r4) fun v6 r7=>
B0 (W03 r7 22 v1 v6) fun r8=>
FL 1 v1 r8 fun v10=>
B1 (vbin .sub v10 (I .i64 1)) fun v11=>
B1 (vfad 1 v1) fun v12=>
B0 (W03 r8 1 v12 v11) fun r13=>
FL 0 v1 r13 fun v15=>
B1 (vbin .add v15 (I .i64 1)) fun v16=>
B1 (vfad 0 v1) fun v17=>
B0 (W03 r13 1 v17 v16) fun r18=>
B1 (W01 r18 22 true v1) fun v19=>
B0 (W03 r18 22 v3 v19) fun r20=>
Rc z rg.length (cons? (W0q v3 r20 22 true) (some [])) r20
theorem S143:SE1 143 k143 s143:=fun _ _ _ _ _=>by kernel_rfl
def k144:KT:=(.n (.l [0,2]) (.n (.n (.l [0,2,5]) (.n (.n (.l [2,3]) (.l [])) (.l []))) (.n (.l [2,3]) (.l []))))
def s144:F1:=fun lp c z a0 rg=>
B2 (W08 [(.int .i64 0),(.int .i64 0),(.int .i64 0),(.int .i64 0),(.int .i64 0),(.int .i64 0),(.int .i64 0),(.int .i64 0)] rg) fun v1 r2=>
B2 (c (.fn 135) [a0] r2) fun v3 r4=>
Cd (W00 v3) (
B1 (W06 [(.int .i64 0),(.int .i64 0),(.int .i64 0),(.int .i64 0),(.int .i64 0),(.int .i64 0),(.int .i64 0),(.int .i64 0)] []) fun v5=>
B0 (W03 r4 8 v1 v5) fun r6=>
Rc z rg.length (cons? (W0q v1 r6 8 true) (cons? (some (Bo false)) (some []))) r6) (
B1 (W0a a0) fun v7=>
FL 0 v7 r4 fun v9=>
B2 (c (.fn 242) [v9] r4) fun v10 r11=>
B1 (vext 0 v10) fun v12=>
B1 (vext 1 v10) fun v13=>
B0 (W03 r11 8 v1 v12) fun r14=>
Rc z rg.length (cons? (W0q v1 r14 8 true) (cons? (some v13) (some []))) r14)
theorem S144:SE1 144 k144 s144:=fun _ _ _ _ _=>by kernel_rfl
def k145:KT:=(.n (.l [0,3]) (.n (.l [3,5]) (.n (.n (.l [3,5,10]) (.n (.n (.l [4]) (.l [])) (.n (.l [5,13]) (.n (.n (.l [4]) (.l [])) (.n (.l [28]) (.n (.n (.l [4]) (.l [])) (.l []))))))) (.n (.l [4]) (.l [])))))
def s145:F2:=fun lp c z a0 a1 rg=>
B2 (vbox a1 rg) fun v1 r2=>
FL 1 v1 r2 fun v4=>
B2 (c (.fn 243) [a0,v4] r2) fun v5 r6=>
B2 (xE (.nilq 0 false) [v5] r6) fun v7 r8=>
Cd (W00 v7) (
Fin z rg.length [(I .i64 0)] r8) (
B1 (W0a v5) fun v9=>
FL 0 v9 r8 fun v11=>
B1 (vbin .eql v11 (I .i64 0)) fun v12=>
B1 (Gv false v12 (some v5)) fun v13=>
B1 (Gv false v12 (W0a v13)) fun v14=>
B1 (Gv false v12 (vfad 1 v14)) fun v15=>
B1 (Gv false v12 (W01 r8 1 false v15)) fun v16=>
B1 (Gv false v12 (vfad 2 v1)) fun v17=>
B1 (Gv false v12 (W01 r8 1 false v17)) fun v18=>
B1 (Gv false v12 (vbin .neq v16 v18)) fun v19=>
B1 (W0c v12 (Bo true) v19) fun v20=>
Cd (W00 v20) (
Fin z rg.length [(I .i64 1)] r8) (
B1 (W0a v5) fun v21=>
FL 0 v21 r8 fun v23=>
B1 (vbin .eql v23 (I .i64 1)) fun v24=>
Cd (W00 v24) (
Fin z rg.length [(I .i64 2)] r8) (
Fin z rg.length [(I .i64 3)] r8)))
theorem S145:SE2 145 k145 s145:=fun _ _ _ _ _ _=>by kernel_rfl
def k146:KT:=(.n (.l [0,1,4]) (.n (.n (.l [0,1,4,6]) (.n (.n (.l [4]) (.l [])) (.l []))) (.n (.l [4]) (.l []))))
def s146:F2:=fun lp c z a0 a1 rg=>
B2 (W08 [(.int .i64 0),(.int .i64 0),(.int .i64 0)] rg) fun v1 r2=>
B1 (vbin .lss a0 (I .i64 1)) fun v3=>
Cd (W00 v3) (
B1 (W06 [(.int .i64 0),(.int .i64 0),(.int .i64 0)] []) fun v4=>
B0 (W03 r2 3 v1 v4) fun r5=>
Rc z rg.length (cons? (W0q v1 r5 3 true) (some [])) r5) (
B1 (W06 [(.int .i64 0),(.int .i64 0),(.int .i64 0)] [(0,1,a0),(1,1,a0),(2,1,a1)]) fun v6=>
B0 (W03 r2 3 v1 v6) fun r7=>
Rc z rg.length (cons? (W0q v1 r7 3 true) (some [])) r7)
theorem S146:SE2 146 k146 s146:=fun _ _ _ _ _ _=>by kernel_rfl
def V32:KT:=(.n (.n (.l [1,5,6,15]) (.n (.l []) (.l []))) (.n (.l [1,5,6,7]) (.n (.l [1,5,6,7]) (.n (.n (.l [1,5,6,7,38]) (.n (.l []) (.l []))) (.n (.l [1,5,6,7]) (.l [1,5,6]))))))
def k148:KT:=(.n (.l [0,1]) (.n (.l [0,1,5]) (.n (.l [1,5,6]) (.n V32 (.n (.l [4]) (.l []))))))
def V33:FB:=fun lp c n0 s=>
B1 (vlen (s.g 6)) fun v6=>
B1 (vbin .gtr v6 (I .i64 0)) fun v7=>
Cd (W00 v7) (
B1 (vlen (s.g 6)) fun v8=>
B1 (vbin .sub v8 (I .i64 1)) fun v9=>
B1 (vixs 3 v9 (s.g 6)) fun v10=>
B1 (W01 s.regs 3 true v10) fun v11=>
B2 (W08 [(.int .i64 0),(.int .i64 0),(.int .i64 0)] s.regs) fun v12 r13=>
B0 (W03 r13 3 v12 v11) fun r14=>
B1 (vlen (s.g 6)) fun v15=>
B1 (vbin .sub v15 (I .i64 1)) fun v16=>
B1 (vsls 3 (s.g 6) none (some v16) none) fun v17=>
B1 (W01 r14 3 true v12) fun v18=>
B2 (c (.fn 247) [v18,(s.g 1)] r14) fun v19 r20=>
B1 (vun .not v19) fun v21=>
B1 (Gv false v21 (some (s.g 5))) fun v22=>
B1 (Gv false v21 (vfad 1 v12)) fun v23=>
B1 (Gv false v21 (W01 r20 1 false v23)) fun v24=>
B1 (Gv false v21 (vbin .sub v24 (I .i64 1))) fun v25=>
B1 (Gv false v21 (vixs 1 v25 v22)) fun v26=>
B1 (Gv false v21 (W01 r20 1 false v26)) fun v27=>
B1 (W0c v21 (Bo true) v27) fun v28=>
Cd (W00 v28) (
some (.normal,(⟨[(38,v28),(7,v12),(6,v17),(5,(s.g 5)),(1,(s.g 1))],r20⟩:St))) (
FL 1 v12 r20 fun v30=>
B1 (vbin .sub v30 (I .i64 1)) fun v31=>
B1 (vixs 1 v31 (s.g 5)) fun v32=>
B0 (W03 r20 1 v32 (Bo true)) fun r33=>
FL 1 v12 r33 fun v35=>
B1 (vbin .sub v35 (I .i64 1)) fun v36=>
B1 (vixs 10 v36 (s.g 1)) fun v37=>
B1 (vfad 4 v37) fun v38=>
B1 (vsla 2 3 v38 none none none) fun v39=>
B2 (vapp r33 3 24 v17 v39) fun v40 r41=>
some (.normal,(⟨[(6,v40),(5,(s.g 5)),(1,(s.g 1))],r41⟩:St)))) (
some ((.exit 0),(⟨[(15,v7),(6,(s.g 6)),(5,(s.g 5)),(1,(s.g 1))],s.regs⟩:St)))
def s148:F2:=fun lp c z a0 a1 rg=>
B1 (vlen a1) fun v1=>
B2 (vmks rg 1 1 [(.bool false)] v1 v1) fun v2 r3=>
B2 (c (.fn 246) [a0] r3) fun v4 r5=>
B3 (lp (V33 lp c rg.length) (⟨[(6,v4),(5,v2),(1,a1)],r5⟩:St)) fun e42 s43=>X3 e42 (
none) (
Fin z rg.length [(lk s43.slots 4)] s43.regs) (fun i44=>
(bif Nat.beq i44 0 then (
Fin z rg.length [(s43.g 5)] s43.regs)else (
none)))
theorem S148:SE2 148 k148 s148:=fun _ _ _ _ _ _=>by kernel_rfl
def V34:KT:=(.n (.l [0,1,5,13,14,15,16]) (.n (.n (.l []) (.l [])) (.n (.n (.l [0,1,5,7,13,14,15]) (.n (.l [0,1,5,7,13,14,15,22]) (.n (.l [0,1,5,13,14,15]) (.l [])))) (.l [0,1,5,13,14,15]))))
def k152:KT:=(.n (.l [0,1]) (.n (.n (.l [0,1,9]) (.n (.n (.l [4]) (.l [])) (.l []))) (.n (.l [0,1,5]) (.n (.n (.l [0,1,5,13,14,15]) V34) (.n (.l [4]) (.l []))))))
def Wb3:FB:=fun lp c n0 s=>
B1 (vbin .lss (s.g 15) (s.g 14)) fun v7=>
Cd (W00 v7) (
B1 (vixs 3 (s.g 15) (s.g 13)) fun v8=>
B1 (W01 s.regs 3 true v8) fun v9=>
B2 (W08 [(.int .i64 0),(.int .i64 0),(.int .i64 0)] s.regs) fun v10 r11=>
B0 (W03 r11 3 v10 v9) fun r12=>
FL 0 v10 r12 fun v14=>
B1 (vbin .eql v14 (s.g 1)) fun v15=>
Cd (W00 v15) (
B1 (W0a (s.g 0)) fun v16=>
FL 1 v16 r12 fun v18=>
B1 (W01 r12 3 true v10) fun v19=>
B2 (xE (.look (true,[.i64,.i64,.i64]) (true,[(.v (.int .i64 0)),(.v (.int .i64 0)),(.v (.int .i64 0))]) false) [v18,v19] r12) fun v20 r21=>
B2 (W0x r21 3 1 [(.int .i64 0),(.int .i64 0),(.int .i64 0)] [(0,v20)]) fun v22 r23=>
B2 (vapp r23 3 24 (s.g 5) v22) fun v24 r25=>
B1 (vbin .add (s.g 15) (I .i64 1)) fun v26=>
some (.normal,(⟨[(15,v26),(14,(s.g 14)),(13,(s.g 13)),(5,v24),(1,(s.g 1)),(0,(s.g 0))],r25⟩:St))) (
B1 (vbin .add (s.g 15) (I .i64 1)) fun v27=>
some (.normal,(⟨[(15,v27),(14,(s.g 14)),(13,(s.g 13)),(5,(s.g 5)),(1,(s.g 1)),(0,(s.g 0))],r12⟩:St)))) (
some ((.exit 0),(⟨[(16,v7),(15,(s.g 15)),(14,(s.g 14)),(13,(s.g 13)),(5,(s.g 5)),(1,(s.g 1)),(0,(s.g 0))],s.regs⟩:St)))
def s152:F2:=fun lp c z a0 a1 rg=>
B2 (c (.fn 139) [a0] rg) fun v1 r2=>
Cd (W00 v1) (
Fin z rg.length [(AV.c (.p (.v (.slice none 0 0))))] r2) (
B1 (W0a a0) fun v3=>
FL 0 v3 r2 fun v5=>
B1 (vlen v5) fun v6=>
B3 (lp (Wb3 lp c rg.length) (⟨[(15,(I .i64 0)),(14,v6),(13,v5),(5,(AV.c (.p (.v (.slice none 0 0))))),(1,a1),(0,a0)],r2⟩:St)) fun e28 s29=>X3 e28 (
none) (
Fin z rg.length [(lk s29.slots 4)] s29.regs) (fun i30=>
(bif Nat.beq i30 0 then (
Fin z rg.length [(s29.g 5)] s29.regs)else (
none))))
theorem S152:SE2 152 k152 s152:=fun _ _ _ _ _ _=>by kernel_rfl
def k153:KT:=(.n (.l [0]) (.n (.n (.l [0,4]) (.n (.n (.l [2]) (.l [])) (.l []))) (.n (.l [2]) (.l []))))
def s153:F1:=fun lp c z a0 rg=>
B2 (xE (.nilq 1 false) [a0] rg) fun v1 r2=>
Cd (W00 v1) (
Fin z rg.length [(AV.c (.p (.v (.slice none 0 0))))] r2) (
B2 (W0x r2 10 0 [(.int .i64 0),(.int .i64 0),(.int .i64 0),(.int .i64 0),(.int .i64 0),(.int .i64 0),(.int .i64 0),(.int .i64 0),(.int .i64 0),(.int .i64 0)] []) fun v3 r4=>
B2 (vapp r4 10 80 v3 a0) fun v5 r6=>
Fin z rg.length [v5] r6)
theorem S153:SE1 153 k153 s153:=fun _ _ _ _ _=>by kernel_rfl
def V35:KT:=(.n (.l [0,1,2,3,4,10,11,12]) (.n (.n (.l [0,1,2,3,4,10,11,12,25]) (.n (.n (.l []) (.l [])) (.l []))) (.n (.n (.l [0,1,2,3,4,10,11,12,32]) (.n (.n (.l []) (.l [])) (.l []))) (.n (.n (.l [0,1,2,3,4,10,11,12,39]) (.n (.n (.l [0,1,2,3,4,10,11,12]) (.l [0,1,2,3,4,10,11,12])) (.l []))) (.n (.l [0,1,2,3,4,10,11,12,13,14]) (.n (.n (.l [0,1,2,3,4,10,11,12,13,14,56]) (.n (.n (.l [0,1,2,3,4,10,11,12,13]) (.n (.l [0,1,2,3,4,10,11,12,13]) (.l [0,1,2,3,4,10,11,12,13,14]))) (.l []))) (.n (.n (.l [0,1,2,3,4,10,11,12,13,75]) (.n (.n (.l [0,1,2,3,4,10,11,12,13,80]) (.n (.l []) (.l []))) (.l []))) (.n (.n (.l [0,1,2,3,4,10,11,12,13,97]) (.n (.n (.l [0,2,3,4,10,11,15]) (.n (.l [0,1,2,3,4,10,11]) (.l []))) (.l []))) (.n (.l [0,1,2,3,4,12,16,17]) (.n (.l [0,1,2,3,4,11,12,16]) (.n (.l [0,1,2,3,4,11,12,16,18,19]) (.n (.l [0,1,2,3,4,11,16,18,19,20]) (.n (.l [0,1,2,3,4,11,16,18,19,20,125]) (.n (.n (.l [0,1,2,3,4,10,11,16]) (.n (.l [0,2,3,4,10,11,16]) (.l [0,1,2,3,4,10,11]))) (.n (.l [0,1,2,3,4,10,11,16]) (.n (.l [0,1,3,4,10,11,16]) (.l [0,1,2,3,4,10,11])))))))))))))))))
def k157:KT:=(.n (.l [0,1,2,3,4,10]) (.n (.l [0,1,2,3,4,10,11]) V35))
def V36:FB:=fun lp c n0 s=>
B1 (vbin .sub (s.g 2) (s.g 1)) fun v1=>
B1 (vbin .leq v1 (I .i64 12)) fun v2=>
Cd (W00 v2) (
B2 (c (.fn 249) [(s.g 0),(s.g 1),(s.g 2),(s.g 4)] s.regs) fun v3 r4=>
some (.ret,(⟨[],r4⟩:St))) (
B1 (vbin .eql (s.g 3) (I .i64 0)) fun v5=>
Cd (W00 v5) (
B2 (c (.fn 250) [(s.g 0),(s.g 1),(s.g 2),(s.g 4)] s.regs) fun v6 r7=>
some (.ret,(⟨[],r7⟩:St))) (
Jn (κ:=AV→AV→AV→AV→AV→AV→AV→AV→List Reg→Option (Exit×St)) (fun j0_8 j1_8 j2_8 j3_8 j4_8 j10_8 j11_8 j12_8 rj_8=>
B2 (c (.fn 252) [j0_8,j1_8,j2_8,j4_8] rj_8) fun v9 r10=>
B1 (vext 0 v9) fun v11=>
B1 (vext 1 v9) fun v12=>
Jn (κ:=AV→AV→AV→AV→AV→AV→AV→AV→AV→AV→List Reg→Option (Exit×St)) (fun j0_13 j1_13 j2_13 j3_13 j4_13 j10_13 j11_13 j12_13 j13_13 j14_13 rj_13=>
Jn (κ:=AV→AV→AV→AV→AV→AV→AV→AV→AV→List Reg→Option (Exit×St)) (fun j0_14 j1_14 j2_14 j3_14 j4_14 j10_14 j11_14 j12_14 j13_14 rj_14=>
B1 (vbin .gtr j1_14 (I .i64 0)) fun v15=>
B1 (Gv true v15 (some j4_14)) fun v16=>
B1 (Gv true v15 (some j0_14)) fun v17=>
B1 (Gv true v15 (some j1_14)) fun v18=>
B1 (Gv true v15 (vbin .sub v18 (I .i64 1))) fun v19=>
B1 (Gv true v15 (vixs 3 v19 v17)) fun v20=>
B1 (Gv true v15 (W01 rj_14 3 true v20)) fun v21=>
B1 (Gv true v15 (some j0_14)) fun v22=>
B1 (Gv true v15 (some j13_14)) fun v23=>
B1 (Gv true v15 (vixs 3 v23 v22)) fun v24=>
B1 (Gv true v15 (W01 rj_14 3 true v24)) fun v25=>
B2 (Gr true v15 rj_14 (W4f c [v21,v25] rj_14 (W2i v16))) fun v26 r27=>
B1 (Gv true v15 (vbin .lss v26 (I .i64 0))) fun v28=>
B1 (Gv true v15 (vun .not v28)) fun v29=>
B1 (W0c v15 v29 (Bo false)) fun v30=>
Cd (W00 v30) (
B2 (c (.fn 255) [j0_14,j1_14,j2_14,j13_14,j4_14] r27) fun v31 r32=>
some (.normal,(⟨[(11,j11_14),(10,j10_14),(4,j4_14),(3,j3_14),(2,j2_14),(1,v31),(0,j0_14)],r32⟩:St))) (
B2 (c (.fn 256) [j0_14,j1_14,j2_14,j13_14,j4_14] r27) fun v33 r34=>
B1 (vext 0 v33) fun v35=>
B1 (vext 1 v33) fun v36=>
B1 (vbin .sub v35 j1_14) fun v37=>
B1 (vbin .sub j2_14 v35) fun v38=>
B1 (vbin .quo j12_14 (I .i64 8)) fun v39=>
B1 (vbin .lss v37 v38) fun v40=>
Cd (W00 v40) (
B1 (vbin .geq v37 v39) fun v41=>
B2 (c (.fn 157) [j0_14,j1_14,v35,j3_14,j4_14] r34) fun v42 r43=>
B1 (vbin .add v35 (I .i64 1)) fun v44=>
some (.normal,(⟨[(11,v36),(10,v41),(4,j4_14),(3,j3_14),(2,j2_14),(1,v44),(0,j0_14)],r43⟩:St))) (
B1 (vbin .geq v38 v39) fun v45=>
B1 (vbin .add v35 (I .i64 1)) fun v46=>
B2 (c (.fn 157) [j0_14,v46,j2_14,j3_14,j4_14] r34) fun v47 r48=>
some (.normal,(⟨[(11,v36),(10,v45),(4,j4_14),(3,j3_14),(2,v35),(1,j1_14),(0,j0_14)],r48⟩:St))))) fun k_14=>
B1 (Gv true j10_13 (some j11_13)) fun v49=>
B1 (W0c j10_13 v49 (Bo false)) fun v50=>
B1 (Gv true v50 (some j14_13)) fun v51=>
B1 (Gv true v50 (vbin .eql v51 (I .i64 1))) fun v52=>
B1 (W0c v50 v52 (Bo false)) fun v53=>
Cd (W00 v53) (
B2 (c (.fn 254) [j0_13,j1_13,j2_13,j4_13] rj_13) fun v54 r55=>
Cd (W00 v54) (
some (.ret,(⟨[(80,v54),(13,j13_13),(12,j12_13),(11,j11_13),(10,j10_13),(4,j4_13),(3,j3_13),(2,j2_13),(1,j1_13),(0,j0_13)],r55⟩:St))) (
k_14 j0_13 j1_13 j2_13 j3_13 j4_13 j10_13 j11_13 j12_13 j13_13 r55)) (
k_14 j0_13 j1_13 j2_13 j3_13 j4_13 j10_13 j11_13 j12_13 j13_13 rj_13)) fun k_13=>
B1 (vbin .eql v12 (I .i64 2)) fun v56=>
Cd (W00 v56) (
B2 (c (.fn 253) [j0_8,j1_8,j2_8,j4_8] r10) fun v57 r58=>
B1 (vbin .sub j2_8 (I .i64 1)) fun v59=>
B1 (vbin .sub v11 j1_8) fun v60=>
B1 (vbin .sub v59 v60) fun v61=>
k_13 j0_8 j1_8 j2_8 j3_8 j4_8 j10_8 j11_8 j12_8 v61 (I .i64 1) r58) (
k_13 j0_8 j1_8 j2_8 j3_8 j4_8 j10_8 j11_8 j12_8 v11 v12 r10)) fun k_8=>
B1 (vun .not (s.g 10)) fun v62=>
Cd (W00 v62) (
B2 (c (.fn 251) [(s.g 0),(s.g 1),(s.g 2),(s.g 4)] s.regs) fun v63 r64=>
B1 (vbin .sub (s.g 3) (I .i64 1)) fun v65=>
k_8 (s.g 0) (s.g 1) (s.g 2) v65 (s.g 4) (s.g 10) (s.g 11) v1 r64) (
k_8 (s.g 0) (s.g 1) (s.g 2) (s.g 3) (s.g 4) (s.g 10) (s.g 11) v1 s.regs)))
def s157:F5:=fun lp c z a0 a1 a2 a3 a4 rg=>
B3 (lp (V36 lp c rg.length) (⟨[(11,(Bo true)),(10,(Bo true)),(4,a4),(3,a3),(2,a2),(1,a1),(0,a0)],rg⟩:St)) fun e66 s67=>X3 e66 (
none) (
Fin z rg.length [] s67.regs) (fun i68=>
(bif Nat.beq i68 0 then (
Fin z rg.length [] s67.regs)else (
none)))
theorem S157:SE5 157 k157 s157:=fun _ _ _ _ _ _ _ _ _=>by kernel_rfl
def k158:KT:=(.n (.l [0]) (.n (.n (.n (.l [2]) (.l [])) (.l [])) (.n (.l [2]) (.l []))))
def s158:F1:=fun lp c z a0 rg=>
Cd (W00 (Bo false)) (
B1 (vcvi .u32 a0) fun v1=>
B2 (c (.fn 257) [v1] rg) fun v2 r3=>
Fin z rg.length [v2] r3) (
B2 (c (.fn 258) [a0] rg) fun v4 r5=>
Fin z rg.length [v4] r5)
theorem S158:SE1 158 k158 s158:=fun _ _ _ _ _=>by kernel_rfl
def k159:KT:=(.n (.l [2,3]) (.n (.l [4]) (.l [])))
def s159:F2:=fun lp c z a0 a1 rg=>
B2 (vbox a0 rg) fun v1 r2=>
B2 (vbox a1 r2) fun v3 r4=>
FL 0 v1 r4 fun v6=>
FL 0 v3 r4 fun v8=>
B1 (vbin .eql v6 v8) fun v9=>
B1 (Gv true v9 (vfad 1 v1)) fun v10=>
B1 (Gv true v9 (W01 r4 1 false v10)) fun v11=>
B1 (Gv true v9 (vfad 1 v3)) fun v12=>
B1 (Gv true v9 (W01 r4 1 false v12)) fun v13=>
B1 (Gv true v9 (vbin .eql v11 v13)) fun v14=>
B1 (W0c v9 v14 (Bo false)) fun v15=>
B1 (Gv true v15 (vfad 2 v1)) fun v16=>
B1 (Gv true v15 (W01 r4 1 false v16)) fun v17=>
B1 (Gv true v15 (vfad 2 v3)) fun v18=>
B1 (Gv true v15 (W01 r4 1 false v18)) fun v19=>
B1 (Gv true v15 (vbin .eql v17 v19)) fun v20=>
B1 (W0c v15 v20 (Bo false)) fun v21=>
B1 (Gv true v21 (vfad 3 v1)) fun v22=>
B1 (Gv true v21 (W01 r4 1 false v22)) fun v23=>
B1 (Gv true v21 (vfad 3 v3)) fun v24=>
B1 (Gv true v21 (W01 r4 1 false v24)) fun v25=>
B2 (Gr true v21 r4 (c (.fn 96) [v23,v25] r4)) fun v26 r27=>
B1 (W0c v21 v26 (Bo false)) fun v28=>
Fin z rg.length [v28] r27
theorem S159:SE2 159 k159 s159:=fun _ _ _ _ _ _=>by kernel_rfl
def V37:KT:=(.n (.n (.l [0,1,5,14]) (.n (.l []) (.l []))) (.n (.n (.l [0,1,5,25]) (.n (.n (.l [4]) (.l [])) (.l []))) (.l [0,1,5])))
def k160:KT:=(.n (.l [0,1]) (.n (.n (.l [0,1,10]) (.n (.n (.l [4]) (.l [])) (.l []))) (.n (.n (.l [0,1,5]) V37) (.n (.l [4]) (.l [])))))
def Wig:FB:=fun lp c n0 s=>
B1 (vlen (s.g 0)) fun v4=>
B1 (vbin .lss (s.g 5) v4) fun v5=>
Cd (W00 v5) (
B1 (vixs 3 (s.g 5) (s.g 0)) fun v6=>
B1 (W01 s.regs 3 true v6) fun v7=>
B1 (vixs 3 (s.g 5) (s.g 1)) fun v8=>
B1 (W01 s.regs 3 true v8) fun v9=>
B1 (veqs Go.Proofs.Tryz.prog true 249 [.i64,.i64,.i64] v7 v9) fun v10=>
Cd (W00 v10) (
some (.ret,(⟨[(4,(Bo false))],s.regs⟩:St))) (
B1 (vbin .add (s.g 5) (I .i64 1)) fun v11=>
some (.normal,(⟨[(5,v11),(1,(s.g 1)),(0,(s.g 0))],s.regs⟩:St)))) (
some ((.exit 0),(⟨[(14,v5),(5,(s.g 5)),(1,(s.g 1)),(0,(s.g 0))],s.regs⟩:St)))
def s160:F2:=fun lp c z a0 a1 rg=>
B1 (vlen a0) fun v1=>
B1 (vlen a1) fun v2=>
B1 (vbin .neq v1 v2) fun v3=>
Cd (W00 v3) (
Fin z rg.length [(Bo false)] rg) (
B3 (lp (Wig lp c rg.length) (⟨[(5,(I .i64 0)),(1,a1),(0,a0)],rg⟩:St)) fun e12 s13=>X3 e12 (
none) (
Fin z rg.length [(lk s13.slots 4)] s13.regs) (fun i14=>
(bif Nat.beq i14 0 then (
Fin z rg.length [(Bo true)] s13.regs)else (
none))))
theorem S160:SE2 160 k160 s160:=fun _ _ _ _ _ _=>by kernel_rfl
def k161:KT:=(.n (.l [0]) (.n (.n (.l [0,8]) (.n (.n (.l [2]) (.l [])) (.l []))) (.n (.l [2]) (.l []))))
def s161:F1:=fun lp c z a0 rg=>
B1 (vbin .lss a0 (I .i64 1)) fun v1=>
B1 (Gv false v1 (some a0)) fun v2=>
B1 (Gv false v1 (vbin .gtr v2 (I .i64 25))) fun v3=>
B1 (W0c v1 (Bo true) v3) fun v4=>
Cd (W00 v4) (
Fin z rg.length [(AV.c (.p (.v (.string ⟨#[]⟩))))] rg) (
B2 (c (.fn 259) [(AV.c (.p (.v (.string ⟨#[104,97,108,116,32,45,45,45,45,32,115,101,116,32,114,45,45,110,32,99,111,112,121,32,114,114,45,45,32,97,100,100,32,114,114,114,45,32,115,117,98,32,114,114,114,45,32,109,117,108,32,114,114,114,45,32,100,105,118,32,114,114,114,45,32,106,117,109,112,32,45,45,45,116,32,122,101,114,111,32,114,45,45,116,32,115,97,109,101,32,114,114,45,116,32,108,111,111,107,32,114,103,45,45,32,112,117,116,32,103,114,45,45,32,115,119,97,112,32,114,114,114,103,32,108,111,97,100,32,114,114,45,102,32,115,116,111,114,101,32,114,114,45,102,32,99,97,115,32,114,114,114,102,32,102,101,110,99,101,32,45,45,45,45,32,110,101,119,32,114,45,45,45,32,102,114,101,101,32,114,45,45,45,32,114,101,116,105,114,101,32,114,45,45,45,32,103,117,97,114,100,32,114,45,45,115,32,99,108,101,97,114,32,45,45,45,115,32,101,110,116,101,114,32,45,45,45,45,32,108,101,97,118,101,32,45,45,45,45,32,113,117,105,101,116,32,45,45,45,45]⟩))))] rg) fun v5 r6=>
B1 (vbin .mul (I .i64 2) a0) fun v7=>
B1 (vbin .sub v7 (I .i64 1)) fun v8=>
B1 (vixs 1 v8 v5) fun v9=>
L1 r6 v9 fun v10=>
Fin z rg.length [v10] r6)
theorem S161:SE1 161 k161 s161:=fun _ _ _ _ _=>by kernel_rfl
def k162:KT:=(.n (.l [1,2]) (.n (.n (.l [2,5]) (.n (.l [2,5,6]) (.n (.n (.l [4]) (.l [])) (.n (.l [2,5,10]) (.n (.n (.l [4]) (.l [])) (.n (.l [2,14]) (.n (.n (.l [4]) (.l [])) (.l [])))))))) (.n (.l [4]) (.l []))))
def s162:F2:=fun lp c z a0 a1 rg=>
B2 (vbox a0 rg) fun v1 r2=>
B1 (vbin .eql a1 (I .i64 0)) fun v3=>
Cd (W00 v3) (
FL 1 v1 r2 fun v5=>
Fin z rg.length [v5] r2) (
B1 (vbin .eql a1 (I .i64 1)) fun v6=>
Cd (W00 v6) (
FL 2 v1 r2 fun v8=>
Fin z rg.length [v8] r2) (
B1 (vbin .eql a1 (I .i64 2)) fun v9=>
Cd (W00 v9) (
FL 3 v1 r2 fun v11=>
Fin z rg.length [v11] r2) (
FL 4 v1 r2 fun v13=>
Fin z rg.length [v13] r2)))
theorem S162:SE2 162 k162 s162:=fun _ _ _ _ _ _=>by kernel_rfl
def k163:KT:=(.n (.l [0,2,4]) (.n (.n (.l [2,4,7]) (.n (.l [2,4,7,8]) (.n (.n (.l [6]) (.l [])) (.n (.l [2,4,7,10]) (.n (.n (.l [6]) (.l [])) (.n (.l [2,4,7,16]) (.n (.n (.l [6]) (.l [])) (.n (.l [2,7,22]) (.n (.n (.l [6]) (.l [])) (.n (.l [2,24]) (.n (.n (.l [6]) (.l [])) (.l [])))))))))))) (.n (.l [6]) (.l []))))
def s163:F3:=fun lp c z a0 a1 a2 rg=>
B2 (vbox a1 rg) fun v1 r2=>
B1 (vbin .eql a0 (I .u8 114)) fun v3=>
Cd (W00 v3) (
Fin z rg.length [(I .i64 3)] r2) (
B1 (vbin .eql a0 (I .u8 103)) fun v4=>
Cd (W00 v4) (
FL 0 v1 r2 fun v6=>
B1 (vmm true v6 (I .i64 0)) fun v7=>
B1 (vbin .sub v7 (I .i64 1)) fun v8=>
Fin z rg.length [v8] r2) (
B1 (vbin .eql a0 (I .u8 115)) fun v9=>
Cd (W00 v9) (
FL 2 v1 r2 fun v11=>
B1 (vmm true v11 (I .i64 0)) fun v12=>
B1 (vbin .sub v12 (I .i64 1)) fun v13=>
Fin z rg.length [v13] r2) (
B1 (vbin .eql a0 (I .u8 102)) fun v14=>
Cd (W00 v14) (
Fin z rg.length [(I .i64 1)] r2) (
B1 (vbin .eql a0 (I .u8 116)) fun v15=>
Cd (W00 v15) (
Fin z rg.length [a2] r2) (
Fin z rg.length [(I .i64 0)] r2)))))
theorem S163:SE3 163 k163 s163:=fun _ _ _ _ _ _ _=>by kernel_rfl
def V38:KT:=(.n (.n (.l [1,5,6,15]) (.n (.l []) (.l []))) (.n (.l [1,5,6]) (.l [1,5,6])))
def k164:KT:=(.n (.l [0,1]) (.n (.l [1,5]) (.n (.n (.l [1,5,6]) V38) (.n (.l [4]) (.l [])))))
def Wih:FB:=fun lp c n0 s=>
B1 (vlen (s.g 1)) fun v5=>
B1 (vbin .lss (s.g 6) v5) fun v6=>
Cd (W00 v6) (
B1 (vixs 1 (s.g 6) (s.g 1)) fun v7=>
L1 s.regs v7 fun v8=>
B1 (vcvi .u64 v8) fun v9=>
B2 (c (.fn 260) [(s.g 5),v9] s.regs) fun v10 r11=>
B1 (vbin .add (s.g 6) (I .i64 1)) fun v12=>
some (.normal,(⟨[(6,v12),(5,v10),(1,(s.g 1))],r11⟩:St))) (
some ((.exit 0),(⟨[(15,v6),(6,(s.g 6)),(5,(s.g 5)),(1,(s.g 1))],s.regs⟩:St)))
def s164:F2:=fun lp c z a0 a1 rg=>
B1 (vlen a1) fun v1=>
B1 (vcvi .u64 v1) fun v2=>
B2 (c (.fn 260) [a0,v2] rg) fun v3 r4=>
B3 (lp (Wih lp c rg.length) (⟨[(6,(I .i64 0)),(5,v3),(1,a1)],r4⟩:St)) fun e13 s14=>X3 e13 (
none) (
Fin z rg.length [(lk s14.slots 4)] s14.regs) (fun i15=>
(bif Nat.beq i15 0 then (
Fin z rg.length [(s14.g 5)] s14.regs)else (
none)))
theorem S164:SE2 164 k164 s164:=fun _ _ _ _ _ _=>by kernel_rfl
def V39:KT:=(.n (.n (.l [1,3,6,67]) (.n (.l []) (.l []))) (.n (.l [1,3,6]) (.l [1,3,6])))
def V3a:KT:=(.n (.n (.l [1,3,4,24]) (.n (.l []) (.l []))) (.n (.n (.l [1,3,4,5]) (.n (.l [1,3,4,5]) (.n (.l [1,3,4,5]) (.n (.l [1,3,4,5]) (.n (.l [1,3,4,5]) (.n (.l [1,3,4,5]) (.l [1,3,4]))))))) (.l [1,3,4])))
def k165:KT:=(.n (.l [1]) (.n (.l [1,3]) (.n (.l [1,3]) (.n (.l [1,3]) (.n (.l [1,3]) (.n (.n (.l [1,3,4]) V3a) (.n (.l [1,3]) (.n (.n (.l [1,3,6]) V39) (.n (.l [1,3]) (.n (.l [1,3]) (.n (.l [2]) (.l []))))))))))))
def Wii:FB:=fun lp c n0 s=>
FL 5 (s.g 1) s.regs fun v64=>
B1 (vlen v64) fun v65=>
B1 (vbin .lss (s.g 6) v65) fun v66=>
Cd (W00 v66) (
FL 5 (s.g 1) s.regs fun v68=>
B1 (vixs 1 (s.g 6) v68) fun v69=>
L1 s.regs v69 fun v70=>
B2 (c (.fn 262) [(s.g 3),v70] s.regs) fun v71 r72=>
B1 (vbin .add (s.g 6) (I .i64 1)) fun v73=>
some (.normal,(⟨[(6,v73),(3,v71),(1,(s.g 1))],r72⟩:St))) (
some ((.exit 2),(⟨[(67,v66),(6,(s.g 6)),(3,(s.g 3)),(1,(s.g 1))],s.regs⟩:St)))
def Wij:FB:=fun lp c n0 s=>
FL 4 (s.g 1) s.regs fun v17=>
B1 (vlen v17) fun v18=>
B1 (vbin .lss (s.g 4) v18) fun v19=>
Cd (W00 v19) (
FL 4 (s.g 1) s.regs fun v21=>
B1 (vixs 10 (s.g 4) v21) fun v22=>
B1 (W01 s.regs 10 true v22) fun v23=>
B2 (W08 [(.int .i64 0),(.int .i64 0),(.int .i64 0),(.int .i64 0),(.int .i64 0),(.int .i64 0),(.int .i64 0),(.int .i64 0),(.int .i64 0),(.int .i64 0)] s.regs) fun v24 r25=>
B0 (W03 r25 10 v24 v23) fun r26=>
FL 0 v24 r26 fun v28=>
B2 (c (.fn 262) [(s.g 3),v28] r26) fun v29 r30=>
FL 1 v24 r30 fun v32=>
B2 (c (.fn 262) [v29,v32] r30) fun v33 r34=>
FL 2 v24 r34 fun v36=>
B2 (c (.fn 262) [v33,v36] r34) fun v37 r38=>
FL 3 v24 r38 fun v40=>
B2 (c (.fn 262) [v37,v40] r38) fun v41 r42=>
B1 (vfad 4 v24) fun v43=>
B1 (vixa 2 3 (I .i64 0) v43) fun v44=>
B1 (W01 r42 3 true v44) fun v45=>
B2 (c (.fn 263) [v41,v45] r42) fun v46 r47=>
B1 (vfad 4 v24) fun v48=>
B1 (vixa 2 3 (I .i64 1) v48) fun v49=>
B1 (W01 r47 3 true v49) fun v50=>
B2 (c (.fn 263) [v46,v50] r47) fun v51 r52=>
B1 (vbin .add (s.g 4) (I .i64 1)) fun v53=>
some (.normal,(⟨[(4,v53),(3,v51),(1,(s.g 1))],r52⟩:St))) (
some ((.exit 0),(⟨[(24,v19),(4,(s.g 4)),(3,(s.g 3)),(1,(s.g 1))],s.regs⟩:St)))
def s165:F1:=fun lp c z a0 rg=>
B2 (vbox a0 rg) fun v1 r2=>
FL 2 v1 r2 fun v4=>
B2 (c (.fn 261) [(AV.c (.p (.v (.slice none 0 0)))),v4] r2) fun v5 r6=>
FL 3 v1 r6 fun v8=>
B2 (c (.fn 261) [v5,v8] r6) fun v9 r10=>
FL 4 v1 r10 fun v12=>
B1 (vlen v12) fun v13=>
B2 (c (.fn 262) [v9,v13] r10) fun v14 r15=>
B3 (lp (Wij lp c rg.length) (⟨[(4,(I .i64 0)),(3,v14),(1,v1)],r15⟩:St)) fun e54 s55=>X3 e54 (
none) (
Fin z rg.length [(lk s55.slots 2)] s55.regs) (fun i56=>
(bif Nat.beq i56 0 then (
FL 5 (s55.g 1) s55.regs fun v59=>
B1 (vlen v59) fun v60=>
B2 (c (.fn 262) [(s55.g 3),v60] s55.regs) fun v61 r62=>
B3 (lp (Wii lp c rg.length) (⟨[(6,(I .i64 0)),(3,v61),(1,(s55.g 1))],r62⟩:St)) fun e74 s75=>X3 e74 (
none) (
Fin z rg.length [(lk s75.slots 2)] s75.regs) (fun i76=>
(bif Nat.beq i76 2 then (
FL 6 (s75.g 1) s75.regs fun v79=>
B2 (c (.fn 264) [(s75.g 3),v79] s75.regs) fun v80 r81=>
FL 7 (s75.g 1) r81 fun v83=>
B2 (c (.fn 265) [v80,v83] r81) fun v84 r85=>
FL 8 (s75.g 1) r85 fun v87=>
B2 (c (.fn 265) [v84,v87] r85) fun v88 r89=>
Fin z rg.length [v88] r89)else (
none))))else (
none)))
theorem S165:SE1 165 k165 s165:=fun _ _ _ _ _=>by kernel_rfl
def V3b:KT:=(.n (.n (.l [1,3,5,57]) (.n (.l []) (.l []))) (.n (.n (.l [1,3,5]) (.n (.l [1,3,5]) (.l [1,3,5]))) (.l [1,3,5])))
def V3c:KT:=(.n (.n (.l [1,3,4,19]) (.n (.l []) (.l []))) (.n (.l [1,3,4]) (.l [1,3,4])))
def k166:KT:=(.n (.l [1]) (.n (.l [1,3]) (.n (.l [1,3]) (.n (.l [1,3]) (.n (.l [1,3]) (.n (.n (.l [1,3,4]) V3c) (.n (.l [1,3]) (.n (.l [1,3]) (.n (.l [1,3]) (.n (.l [1,3]) (.n (.l [1,3]) (.n (.n (.l [1,3,5]) V3b) (.n (.l [1,3]) (.n (.l [2]) (.l [])))))))))))))))
def Wik:FB:=fun lp c n0 s=>
FL 19 (s.g 1) s.regs fun v52=>
B1 (vlen v52) fun v53=>
B1 (vbin .lss (s.g 5) v53) fun v54=>
Cd (W00 v54) (
FL 19 (s.g 1) s.regs fun v56=>
B1 (vixs 3 (s.g 5) v56) fun v57=>
FL 0 v57 s.regs fun v59=>
B2 (c (.fn 262) [(s.g 3),v59] s.regs) fun v60 r61=>
FL 19 (s.g 1) r61 fun v63=>
B1 (vixs 3 (s.g 5) v63) fun v64=>
FL 1 v64 r61 fun v66=>
B2 (c (.fn 262) [v60,v66] r61) fun v67 r68=>
FL 19 (s.g 1) r68 fun v70=>
B1 (vixs 3 (s.g 5) v70) fun v71=>
FL 2 v71 r68 fun v73=>
B2 (c (.fn 264) [v67,v73] r68) fun v74 r75=>
B1 (vbin .add (s.g 5) (I .i64 1)) fun v76=>
some (.normal,(⟨[(5,v76),(3,v74),(1,(s.g 1))],r75⟩:St))) (
some ((.exit 2),(⟨[(57,v54),(5,(s.g 5)),(3,(s.g 3)),(1,(s.g 1))],s.regs⟩:St)))
def W9h:FB:=fun lp c n0 s=>
B1 (vbin .lss (s.g 4) (I .i64 4)) fun v15=>
Cd (W00 v15) (
B1 (vfad 3 (s.g 1)) fun v16=>
B1 (vixa 4 3 (s.g 4) v16) fun v17=>
B1 (W01 s.regs 3 true v17) fun v18=>
B2 (c (.fn 263) [(s.g 3),v18] s.regs) fun v19 r20=>
B1 (vbin .add (s.g 4) (I .i64 1)) fun v21=>
some (.normal,(⟨[(4,v21),(3,v19),(1,(s.g 1))],r20⟩:St))) (
some ((.exit 0),(⟨[(19,v15),(4,(s.g 4)),(3,(s.g 3)),(1,(s.g 1))],s.regs⟩:St)))
def s166:F1:=fun lp c z a0 rg=>
B2 (vbox a0 rg) fun v1 r2=>
FL 0 v1 r2 fun v4=>
B2 (c (.fn 262) [(AV.c (.p (.v (.slice none 0 0)))),v4] r2) fun v5 r6=>
FL 1 v1 r6 fun v8=>
B2 (c (.fn 262) [v5,v8] r6) fun v9 r10=>
FL 2 v1 r10 fun v12=>
B2 (c (.fn 262) [v9,v12] r10) fun v13 r14=>
B3 (lp (W9h lp c rg.length) (⟨[(4,(I .i64 0)),(3,v13),(1,v1)],r14⟩:St)) fun e22 s23=>X3 e22 (
none) (
Fin z rg.length [(lk s23.slots 2)] s23.regs) (fun i24=>
(bif Nat.beq i24 0 then (
B1 (vfad 15 (s23.g 1)) fun v26=>
FL 0 v26 s23.regs fun v28=>
B2 (c (.fn 262) [(s23.g 3),v28] s23.regs) fun v29 r30=>
B1 (vfad 15 (s23.g 1)) fun v31=>
FL 1 v31 r30 fun v33=>
B2 (c (.fn 262) [v29,v33] r30) fun v34 r35=>
B1 (vfad 15 (s23.g 1)) fun v36=>
FL 2 v36 r35 fun v38=>
B2 (c (.fn 264) [v34,v38] r35) fun v39 r40=>
B1 (vfad 15 (s23.g 1)) fun v41=>
FL 3 v41 r40 fun v43=>
B2 (c (.fn 265) [v39,v43] r40) fun v44 r45=>
FL 19 (s23.g 1) r45 fun v47=>
B1 (vlen v47) fun v48=>
B2 (c (.fn 262) [v44,v48] r45) fun v49 r50=>
B3 (lp (Wik lp c rg.length) (⟨[(5,(I .i64 0)),(3,v49),(1,(s23.g 1))],r50⟩:St)) fun e77 s78=>X3 e77 (
none) (
Fin z rg.length [(lk s78.slots 2)] s78.regs) (fun i79=>
(bif Nat.beq i79 2 then (
FL 20 (s78.g 1) s78.regs fun v82=>
B2 (c (.fn 265) [(s78.g 3),v82] s78.regs) fun v83 r84=>
FL 21 (s78.g 1) r84 fun v86=>
B2 (c (.fn 262) [v83,v86] r84) fun v87 r88=>
Fin z rg.length [v87] r88)else (
none))))else (
none)))
theorem S166:SE1 166 k166 s166:=fun _ _ _ _ _=>by kernel_rfl
def V3d:KT:=(.n (.n (.l [0,3,4,12]) (.n (.l []) (.l []))) (.n (.n (.l [0,3,4]) (.n (.l [0,3,4]) (.n (.l [0,3,4]) (.n (.l [0,3,4]) (.n (.l [0,3,4]) (.l [0,3,4])))))) (.l [0,3,4])))
def k167:KT:=(.n (.l [0]) (.n (.l [0,3]) (.n (.l [0,3]) (.n (.n (.l [0,3,4]) V3d) (.n (.l [2]) (.l []))))))
def Wil:FB:=fun lp c n0 s=>
B1 (vlen (s.g 0)) fun v4=>
B1 (vbin .lss (s.g 4) v4) fun v5=>
Cd (W00 v5) (
B1 (vixs 8 (s.g 4) (s.g 0)) fun v6=>
B1 (vfad 0 v6) fun v7=>
FL 0 v7 s.regs fun v9=>
B2 (c (.fn 262) [(s.g 3),v9] s.regs) fun v10 r11=>
B1 (vixs 8 (s.g 4) (s.g 0)) fun v12=>
B1 (vfad 0 v12) fun v13=>
FL 1 v13 r11 fun v15=>
B2 (c (.fn 262) [v10,v15] r11) fun v16 r17=>
B1 (vixs 8 (s.g 4) (s.g 0)) fun v18=>
B1 (vfad 0 v18) fun v19=>
FL 2 v19 r17 fun v21=>
B2 (c (.fn 262) [v16,v21] r17) fun v22 r23=>
B1 (vixs 8 (s.g 4) (s.g 0)) fun v24=>
B1 (vfad 3 v24) fun v25=>
B1 (W01 r23 3 true v25) fun v26=>
B2 (c (.fn 263) [v22,v26] r23) fun v27 r28=>
B1 (vixs 8 (s.g 4) (s.g 0)) fun v29=>
FL 6 v29 r28 fun v31=>
B2 (c (.fn 262) [v27,v31] r28) fun v32 r33=>
B1 (vixs 8 (s.g 4) (s.g 0)) fun v34=>
FL 7 v34 r33 fun v36=>
B2 (c (.fn 262) [v32,v36] r33) fun v37 r38=>
B1 (vbin .add (s.g 4) (I .i64 1)) fun v39=>
some (.normal,(⟨[(4,v39),(3,v37),(0,(s.g 0))],r38⟩:St))) (
some ((.exit 0),(⟨[(12,v5),(4,(s.g 4)),(3,(s.g 3)),(0,(s.g 0))],s.regs⟩:St)))
def s167:F1:=fun lp c z a0 rg=>
B1 (vlen a0) fun v1=>
B2 (c (.fn 262) [(AV.c (.p (.v (.slice none 0 0)))),v1] rg) fun v2 r3=>
B3 (lp (Wil lp c rg.length) (⟨[(4,(I .i64 0)),(3,v2),(0,a0)],r3⟩:St)) fun e40 s41=>X3 e40 (
none) (
Fin z rg.length [(lk s41.slots 2)] s41.regs) (fun i42=>
(bif Nat.beq i42 0 then (
Fin z rg.length [(s41.g 3)] s41.regs)else (
none)))
theorem S167:SE1 167 k167 s167:=fun _ _ _ _ _=>by kernel_rfl
def k168:KT:=(.n (.l [2,3,4,6]) (.n (.l [2,3,6,7]) (.n (.n (.l [2,3,6,7,25]) (.n (.n (.l [6]) (.l [])) (.l []))) (.n (.l [6]) (.l [])))))
def s168:F3:=fun lp c z a0 a1 a2 rg=>
B2 (vbox a0 rg) fun v1 r2=>
B2 (vbox a1 r2) fun v3 r4=>
B2 (W08 [(.int .i64 0),(.int .i64 0),(.int .i64 0),(.int .i64 0),(.int .i64 0)] r4) fun v5 r6=>
FL 0 v3 r6 fun v8=>
B1 (vixs 22 a2 v8) fun v9=>
B1 (W01 r6 22 true v9) fun v10=>
B2 (W08 [(.int .i64 0),(.int .i64 0),(.int .i64 0),(.int .i64 0),(.int .i64 0),(.int .i64 0),(.int .i64 0),(.int .i64 0),(.int .i64 0),(.int .i64 0),(.int .i64 0),(.int .i64 0),(.int .i64 0),(.int .i64 0),(.int .i64 0),(.int .i64 0),(.int .i64 0),(.int .i64 0),(.slice none 0 0),(.slice none 0 0),(.slice none 0 0),(.int .i64 0)] r6) fun v11 r12=>
B0 (W03 r12 22 v11 v10) fun r13=>
B1 (W01 r13 22 true v11) fun v14=>
FL 3 v1 r13 fun v16=>
B1 (vixs 1 a2 v16) fun v17=>
L1 r13 v17 fun v18=>
B2 (c (.fn 103) [v14,v18] r13) fun v19 r20=>
B1 (Gv false v19 (vfad 15 v11)) fun v21=>
B1 (Gv false v19 (vfad 0 v21)) fun v22=>
B1 (Gv false v19 (W01 r20 1 false v22)) fun v23=>
B1 (Gv false v19 (vbin .neq v23 (I .i64 0))) fun v24=>
B1 (W0c v19 (Bo true) v24) fun v25=>
Cd (W00 v25) (
B1 (W06 [(.int .i64 0),(.int .i64 0),(.int .i64 0),(.int .i64 0),(.int .i64 0)] []) fun v26=>
B0 (W03 r20 5 v5 v26) fun r27=>
Rc z rg.length (cons? (W0q v5 r27 5 true) (some [])) r27) (
FL 3 v1 r20 fun v29=>
B1 (vixs 1 a2 v29) fun v30=>
L1 r20 v30 fun v31=>
FL 0 v11 r20 fun v33=>
B1 (vixs 5 v33 v31) fun v34=>
B1 (W01 r20 5 true v34) fun v35=>
B0 (W03 r20 5 v5 v35) fun r36=>
Rc z rg.length (cons? (W0q v5 r36 5 true) (some [])) r36)
theorem S168:SE3 168 k168 s168:=fun _ _ _ _ _ _ _=>by kernel_rfl
def k186:KT:=(.n (.l [0]) (.n (.l [2]) (.l [])))
def s186:F1:=fun lp c z a0 rg=>
B2 (c (.fn 152) [a0,(I .i64 5)] rg) fun v1 r2=>
Fin z rg.length [v1] r2
theorem S186:SE1 186 k186 s186:=fun _ _ _ _ _=>by kernel_rfl
def k187:KT:=(.n (.l [0]) (.n (.n (.l [0,4]) (.n (.n (.l [2]) (.l [])) (.l []))) (.n (.l [2]) (.l []))))
def s187:F1:=fun lp c z a0 rg=>
B2 (xE (.nilq 0 false) [a0] rg) fun v1 r2=>
Cd (W00 v1) (
Fin z rg.length [(AV.c (.p (.v (.slice none 0 0))))] r2) (
B1 (W0a a0) fun v3=>
FL 3 v3 r2 fun v5=>
B2 (c (.fn 207) [v5] r2) fun v6 r7=>
Fin z rg.length [v6] r7)
theorem S187:SE1 187 k187 s187:=fun _ _ _ _ _=>by kernel_rfl
def k188:KT:=(.n (.l [0]) (.n (.l [3]) (.n (.l [2]) (.l []))))
def s188:F1:=fun lp c z a0 rg=>
B1 (W06 [(.int .i64 0),(.int .i64 0),(.int .i64 0)] [(0,1,(I .i64 6))]) fun v1=>
B2 (c (.fn 281) [a0,v1] rg) fun v2 r3=>
B1 (vext 0 v2) fun v4=>
B1 (vext 1 v2) fun v5=>
B2 (W08 [(.int .i64 0),(.int .i64 0),(.int .i64 0)] r3) fun v6 r7=>
B0 (W03 r7 3 v6 v4) fun r8=>
FL 0 v6 r8 fun v10=>
Fin z rg.length [v10] r8
theorem S188:SE1 188 k188 s188:=fun _ _ _ _ _=>by kernel_rfl
def k189:KT:=(.n (.l [0]) (.n (.l [2]) (.l [])))
def s189:F1:=fun lp c z a0 rg=>
B2 (c (.fn 282) [a0,(I .i64 7)] rg) fun v1 r2=>
Fin z rg.length [v1] r2
theorem S189:SE1 189 k189 s189:=fun _ _ _ _ _=>by kernel_rfl
def k190:KT:=(.n (.l [0]) (.n (.l [2]) (.l [])))
def s190:F1:=fun lp c z a0 rg=>
B2 (c (.fn 282) [a0,(I .i64 8)] rg) fun v1 r2=>
Fin z rg.length [v1] r2
theorem S190:SE1 190 k190 s190:=fun _ _ _ _ _=>by kernel_rfl
def k191:KT:=(.n (.l [0]) (.n (.n (.l [0,4]) (.n (.n (.l [2]) (.l [])) (.l []))) (.n (.l [2]) (.l []))))
def s191:F1:=fun lp c z a0 rg=>
B2 (xE (.nilq 1 false) [a0] rg) fun v1 r2=>
Cd (W00 v1) (
Fin z rg.length [(AV.c (.p (.v (.slice none 0 0))))] r2) (
B2 (W0x r2 1 0 [(.int .i64 0)] []) fun v3 r4=>
B2 (vapp r4 1 8 v3 a0) fun v5 r6=>
Fin z rg.length [v5] r6)
theorem S191:SE1 191 k191 s191:=fun _ _ _ _ _=>by kernel_rfl
def k192:KT:=(.n (.l [0]) (.n (.n (.l [0,4]) (.n (.n (.l [2]) (.l [])) (.l []))) (.n (.l [2]) (.l []))))
def s192:F1:=fun lp c z a0 rg=>
B2 (xE (.nilq 1 false) [a0] rg) fun v1 r2=>
Cd (W00 v1) (
Fin z rg.length [(AV.c (.p (.v (.slice none 0 0))))] r2) (
B2 (W0x r2 3 0 [(.int .i64 0),(.int .i64 0),(.int .i64 0)] []) fun v3 r4=>
B2 (vapp r4 3 24 v3 a0) fun v5 r6=>
Fin z rg.length [v5] r6)
theorem S192:SE1 192 k192 s192:=fun _ _ _ _ _=>by kernel_rfl
def V3e:KT:=(.n (.l [1,4,5,12,13,14]) (.n (.n (.l []) (.l [])) (.n (.n (.l [1,4,5,6,7,12,13]) (.n (.l [1,4,5,6,7,12,13,20]) (.n (.l [1,4,5,12,13]) (.l [])))) (.l [1,4,5,12,13]))))
def k193:KT:=(.n (.l [0,1,4]) (.n (.l [1,4,5]) (.n (.n (.l [1,4,5,12,13]) V3e) (.n (.l [4]) (.l [])))))
def W5d:FB:=fun lp c n0 s=>
B1 (vbin .lss (s.g 13) (I .i64 2)) fun v10=>
Cd (W00 v10) (
B1 (vixv 2 1 false (s.g 13) (s.g 12)) fun v11=>
B1 (vlen (s.g 1)) fun v12=>
B1 (vbin .lss (s.g 13) v12) fun v13=>
Cd (W00 v13) (
B1 (vixs 1 (s.g 13) (s.g 1)) fun v14=>
L1 s.regs v14 fun v15=>
B1 (W0a v11) fun v16=>
B0 (W03 s.regs 1 v16 v15) fun r17=>
B1 (vbin .add (s.g 13) (I .i64 1)) fun v18=>
some (.normal,(⟨[(13,v18),(12,(s.g 12)),(5,(s.g 5)),(4,(s.g 4)),(1,(s.g 1))],r17⟩:St))) (
B1 (vbin .add (s.g 13) (I .i64 1)) fun v19=>
some (.normal,(⟨[(13,v19),(12,(s.g 12)),(5,(s.g 5)),(4,(s.g 4)),(1,(s.g 1))],s.regs⟩:St)))) (
some ((.exit 0),(⟨[(14,v10),(13,(s.g 13)),(12,(s.g 12)),(5,(s.g 5)),(4,(s.g 4)),(1,(s.g 1))],s.regs⟩:St)))
def s193:F2:=fun lp c z a0 a1 rg=>
B2 (W08 [(.int .i64 0),(.int .i64 0),(.int .i64 0)] rg) fun v1 r2=>
B1 (W06 [(.int .i64 0),(.int .i64 0),(.int .i64 0)] [(0,1,a0)]) fun v3=>
B2 (W08 [(.int .i64 0),(.int .i64 0),(.int .i64 0)] r2) fun v4 r5=>
B0 (W03 r5 3 v4 v3) fun r6=>
B1 (vfad 1 v4) fun v7=>
B1 (vfad 2 v4) fun v8=>
B1 (W06 [(.pointer none),(.pointer none)] [(0,1,v7),(1,1,v8)]) fun v9=>
B3 (lp (W5d lp c rg.length) (⟨[(13,(I .i64 0)),(12,v9),(5,v4),(4,v1),(1,a1)],r6⟩:St)) fun e20 s21=>X3 e20 (
none) (
Rc z rg.length (cons? (W0q (lk s21.slots 4) s21.regs 3 true) (some [])) s21.regs) (fun i22=>
(bif Nat.beq i22 0 then (
B1 (W01 s21.regs 3 true (s21.g 5)) fun v24=>
B0 (W03 s21.regs 3 (s21.g 4) v24) fun r25=>
Rc z rg.length (cons? (W0q (s21.g 4) r25 3 true) (some [])) r25)else (
none)))
theorem S193:SE2 193 k193 s193:=fun _ _ _ _ _ _=>by kernel_rfl
def k194:KT:=(.n (.l [1]) (.n (.l [2]) (.l [])))
def s194:F1:=fun lp c z a0 rg=>
B2 (vbox a0 rg) fun v1 r2=>
FL 1 v1 r2 fun v4=>
B1 (vbin .gtr v4 (I .i64 0)) fun v5=>
Fin z rg.length [v5] r2
theorem S194:SE1 194 k194 s194:=fun _ _ _ _ _=>by kernel_rfl
def k207:KT:=(.n (.l [0]) (.n (.n (.l [0,4]) (.n (.n (.l [2]) (.l [])) (.l []))) (.n (.l [2]) (.l []))))
def s207:F1:=fun lp c z a0 rg=>
B2 (xE (.nilq 1 false) [a0] rg) fun v1 r2=>
Cd (W00 v1) (
Fin z rg.length [(AV.c (.p (.v (.slice none 0 0))))] r2) (
B2 (W0x r2 1 0 [(.int .i64 0)] []) fun v3 r4=>
B2 (vapp r4 1 8 v3 a0) fun v5 r6=>
Fin z rg.length [v5] r6)
theorem S207:SE1 207 k207 s207:=fun _ _ _ _ _=>by kernel_rfl
def k209:KT:=(.n (.l [0,1]) (.n (.l [4]) (.l [])))
def s209:F2:=fun lp c z a0 a1 rg=>
B1 (vcvi .u64 a0) fun v1=>
B2 (c (.fn 287) [v1,a1] rg) fun v2 r3=>
Fin z rg.length [v2] r3
theorem S209:SE2 209 k209 s209:=fun _ _ _ _ _ _=>by kernel_rfl
def k210:KT:=(.n (.l [1]) (.n (.l [1,3]) (.n (.l [1,3]) (.n (.l [1,3]) (.n (.l [1,3]) (.n (.l [1,3]) (.n (.l [1,3]) (.n (.l [1,3]) (.n (.l [3]) (.n (.l [2]) (.l [])))))))))))
def s210:F1:=fun lp c z a0 rg=>
B2 (vbox a0 rg) fun v1 r2=>
B1 (W06 [(.slice none 0 0)] []) fun v3=>
B2 (vbox v3 r2) fun v4 r5=>
B2 (W08 [(.pointer none)] r5) fun v6 r7=>
B0 (W03 r7 1 v6 v4) fun r8=>
L1 r8 v6 fun v9=>
FL 2 v1 r8 fun v11=>
L1 r8 v6 fun v12=>
B1 (mkfn (.func 289) (W0h faOf [v12]) (W0h faOf [])) fun v13=>
B2 (c (.fn 288) [v9,v11,v13] r8) fun v14 r15=>
L1 r15 v6 fun v16=>
FL 3 v1 r15 fun v18=>
L1 r15 v6 fun v19=>
B1 (mkfn (.func 289) (W0h faOf [v19]) (W0h faOf [])) fun v20=>
B2 (c (.fn 288) [v16,v18,v20] r15) fun v21 r22=>
L1 r22 v6 fun v23=>
FL 4 v1 r22 fun v25=>
B1 (mkfn (.func 291) (W0h faOf []) (W0h faOf [v6])) fun v26=>
B2 (c (.fn 290) [v23,v25,v26] r22) fun v27 r28=>
L1 r28 v6 fun v29=>
FL 5 v1 r28 fun v31=>
L1 r28 v6 fun v32=>
B1 (mkfn (.func 292) (W0h faOf [v32]) (W0h faOf [])) fun v33=>
B2 (c (.fn 293) [v29,v31,v33] r28) fun v34 r35=>
L1 r35 v6 fun v36=>
FL 6 v1 r35 fun v38=>
B2 (W0x r35 1 1 [(.int .i64 0)] [(0,v38)]) fun v39 r40=>
B2 (c (.fn 294) [v36,v39] r40) fun v41 r42=>
L1 r42 v6 fun v43=>
FL 7 v1 r42 fun v45=>
L1 r42 v6 fun v46=>
B1 (mkfn (.func 294) (W0h faOf [v46]) (W0h faOf [])) fun v47=>
B2 (c (.fn 295) [v43,v45,v47] r42) fun v48 r49=>
L1 r49 v6 fun v50=>
FL 8 v1 r49 fun v52=>
L1 r49 v6 fun v53=>
B1 (mkfn (.func 294) (W0h faOf [v53]) (W0h faOf [])) fun v54=>
B2 (c (.fn 295) [v50,v52,v54] r49) fun v55 r56=>
L1 r56 v6 fun v57=>
B1 (W0a v57) fun v58=>
FL 0 v58 r56 fun v60=>
Fin z rg.length [v60] r56
theorem S210:SE1 210 k210 s210:=fun _ _ _ _ _=>by kernel_rfl
def k211:KT:=(.n (.n (.l [1]) (.l [1])) (.n (.l [1,3]) (.n (.l [1,3]) (.n (.l [1,3]) (.n (.l [1,3]) (.n (.l [1,3]) (.n (.l [1,3]) (.n (.l [1,3]) (.n (.l [1,3]) (.n (.l [3]) (.n (.l [2]) (.l []))))))))))))
def s211:F1:=fun lp c z a0 rg=>
B2 (vbox a0 rg) fun v1 r2=>
LetS (cmpK (.n (.l [1]) (.l [1])) rg.length (frzS [1] (⟨[(1,v1)],r2⟩:St))) fun s3=>
B1 (W06 [(.slice none 0 0)] []) fun v4=>
B2 (vbox v4 s3.regs) fun v5 r6=>
B2 (W08 [(.pointer none)] r6) fun v7 r8=>
B0 (W03 r8 1 v7 v5) fun r9=>
L1 r9 v7 fun v10=>
FL 0 (s3.g 1) r9 fun v12=>
FL 1 (s3.g 1) r9 fun v14=>
FL 2 (s3.g 1) r9 fun v16=>
B2 (W0x r9 1 3 [(.int .i64 0)] [(0,v12),(1,v14),(2,v16)]) fun v17 r18=>
B2 (c (.fn 292) [v10,v17] r18) fun v19 r20=>
L1 r20 v7 fun v21=>
B1 (vfad 3 (s3.g 1)) fun v22=>
B1 (vsla 4 3 v22 none none none) fun v23=>
B2 (c (.fn 289) [v21,v23] r20) fun v24 r25=>
L1 r25 v7 fun v26=>
B1 (vfad 15 (s3.g 1)) fun v27=>
FL 0 v27 r25 fun v29=>
B1 (vfad 15 (s3.g 1)) fun v30=>
FL 1 v30 r25 fun v32=>
B2 (W0x r25 1 2 [(.int .i64 0)] [(0,v29),(1,v32)]) fun v33 r34=>
B2 (c (.fn 292) [v26,v33] r34) fun v35 r36=>
L1 r36 v7 fun v37=>
B1 (vfad 15 (s3.g 1)) fun v38=>
FL 2 v38 r36 fun v40=>
B2 (W0x r36 1 1 [(.int .i64 0)] [(0,v40)]) fun v41 r42=>
B2 (c (.fn 294) [v37,v41] r42) fun v43 r44=>
L1 r44 v7 fun v45=>
B1 (vfad 15 (s3.g 1)) fun v46=>
FL 3 v46 r44 fun v48=>
L1 r44 v7 fun v49=>
B1 (mkfn (.func 294) (W0h faOf [v49]) (W0h faOf [])) fun v50=>
B2 (c (.fn 295) [v45,v48,v50] r44) fun v51 r52=>
L1 r52 v7 fun v53=>
FL 19 (s3.g 1) r52 fun v55=>
B1 (mkfn (.func 297) (W0h faOf []) (W0h faOf [v7])) fun v56=>
B2 (c (.fn 296) [v53,v55,v56] r52) fun v57 r58=>
L1 r58 v7 fun v59=>
FL 20 (s3.g 1) r58 fun v61=>
L1 r58 v7 fun v62=>
B1 (mkfn (.func 294) (W0h faOf [v62]) (W0h faOf [])) fun v63=>
B2 (c (.fn 295) [v59,v61,v63] r58) fun v64 r65=>
L1 r65 v7 fun v66=>
FL 21 (s3.g 1) r65 fun v68=>
B2 (W0x r65 1 1 [(.int .i64 0)] [(0,v68)]) fun v69 r70=>
B2 (c (.fn 292) [v66,v69] r70) fun v71 r72=>
L1 r72 v7 fun v73=>
B1 (W0a v73) fun v74=>
FL 0 v74 r72 fun v76=>
Fin z rg.length [v76] r72
theorem S211:SE1 211 k211 s211:=fun _ _ _ _ _=>by kernel_rfl
def k212:KT:=(.n (.l [0]) (.n (.l [0,3]) (.n (.l [3]) (.n (.l [2]) (.l [])))))
def s212:F1:=fun lp c z a0 rg=>
B1 (W06 [(.slice none 0 0)] []) fun v1=>
B2 (vbox v1 rg) fun v2 r3=>
B2 (W08 [(.pointer none)] r3) fun v4 r5=>
B0 (W03 r5 1 v4 v2) fun r6=>
L1 r6 v4 fun v7=>
B1 (mkfn (.func 299) (W0h faOf []) (W0h faOf [v4])) fun v8=>
B2 (c (.fn 298) [v7,a0,v8] r6) fun v9 r10=>
L1 r10 v4 fun v11=>
B1 (W0a v11) fun v12=>
FL 0 v12 r10 fun v14=>
Fin z rg.length [v14] r10
theorem S212:SE1 212 k212 s212:=fun _ _ _ _ _=>by kernel_rfl
def V3f:KT:=(.n (.l [0,1,7,8,9]) (.n (.n (.l []) (.l [])) (.n (.n (.l [0,1,5,7,8]) (.n (.l [0,1,5,7,8,16]) (.n (.n (.l [4]) (.l [])) (.l [])))) (.l [0,1,7,8]))))
def k217:KT:=(.n (.l [0,1]) (.n (.n (.l [0,1,7,8]) V3f) (.n (.l [4]) (.l []))))
def Wim:FB:=fun lp c n0 s=>
B1 (vbin .lss (s.g 8) (s.g 7)) fun v2=>
Cd (W00 v2) (
B1 (vixs 1 (s.g 8) (s.g 0)) fun v3=>
L1 s.regs v3 fun v4=>
B2 (W4f c [v4] s.regs (W2i (s.g 1))) fun v5 r6=>
Cd (W00 v5) (
some (.ret,(⟨[(4,(s.g 8))],r6⟩:St))) (
B1 (vbin .add (s.g 8) (I .i64 1)) fun v7=>
some (.normal,(⟨[(8,v7),(7,(s.g 7)),(1,(s.g 1)),(0,(s.g 0))],r6⟩:St)))) (
some ((.exit 0),(⟨[(9,v2),(8,(s.g 8)),(7,(s.g 7)),(1,(s.g 1)),(0,(s.g 0))],s.regs⟩:St)))
def s217:F2:=fun lp c z a0 a1 rg=>
B1 (vlen a0) fun v1=>
B3 (lp (Wim lp c rg.length) (⟨[(8,(I .i64 0)),(7,v1),(1,a1),(0,a0)],rg⟩:St)) fun e8 s9=>X3 e8 (
none) (
Fin z rg.length [(lk s9.slots 4)] s9.regs) (fun i10=>
(bif Nat.beq i10 0 then (
Fin z rg.length [(I .i64 (-1))] s9.regs)else (
none)))
theorem S217:SE2 217 k217 s217:=fun _ _ _ _ _ _=>by kernel_rfl
def k218:KT:=(.n (.l [0]) (.n (.l [2]) (.l [])))
def s218:F1:=fun lp c z a0 rg=>
B2 (c (.fn 302) [a0] rg) fun v1 r2=>
B1 (vfld 1 1 false v1) fun v3=>
Fin z rg.length [v3] r2
theorem S218:SE1 218 k218 s218:=fun _ _ _ _ _=>by kernel_rfl
def k219:KT:=(.n (.l [0,1,3,6]) (.n (.l [0,1,3,6,9]) (.n (.n (.l [1,3,6,9,10]) (.n (.l [1,3,6,9,10,11]) (.n (.n (.l [8]) (.l [])) (.n (.l [1,3,6,9,10,13]) (.n (.l [1,9]) (.n (.l [1,3,6,9,10,15]) (.n (.l [1,9]) (.n (.l [1,3,6,9,10,21]) (.n (.l [1,9]) (.n (.l [1,3,9,10,27]) (.n (.l [1,9]) (.n (.l [1,3,9,10,29]) (.n (.l [1,9]) (.n (.l [1,9,32]) (.n (.l [1,9]) (.l [])))))))))))))))) (.n (.l [8]) (.l [])))))
def s219:F4:=fun lp c z a0 a1 a2 a3 rg=>
B2 (vbox a2 rg) fun v1 r2=>
Jn (κ:=AV→AV→List Reg→Option (AV×List Reg)) (fun j1_3 j9_3 rj_3=>
B1 (vbin .geq j1_3 (I .i64 0)) fun v4=>
B1 (Gv true v4 (some j1_3)) fun v5=>
B1 (Gv true v4 (some j9_3)) fun v6=>
B1 (Gv true v4 (vbin .leq v5 v6)) fun v7=>
B1 (W0c v4 v7 (Bo false)) fun v8=>
Fin z rg.length [v8] rj_3) fun k_3=>
B1 (vbin .eql a0 (I .u8 110)) fun v9=>
Cd (W00 v9) (
Fin z rg.length [(Bo true)] r2) (
B1 (vbin .eql a0 (I .u8 114)) fun v10=>
Cd (W00 v10) (
k_3 a1 (I .i64 3) r2) (
B1 (vbin .eql a0 (I .u8 103)) fun v11=>
Cd (W00 v11) (
FL 0 v1 r2 fun v13=>
B1 (vmm true v13 (I .i64 0)) fun v14=>
B1 (vbin .sub v14 (I .i64 1)) fun v15=>
k_3 a1 v15 r2) (
B1 (vbin .eql a0 (I .u8 115)) fun v16=>
Cd (W00 v16) (
FL 2 v1 r2 fun v18=>
B1 (vmm true v18 (I .i64 0)) fun v19=>
B1 (vbin .sub v19 (I .i64 1)) fun v20=>
k_3 a1 v20 r2) (
B1 (vbin .eql a0 (I .u8 102)) fun v21=>
Cd (W00 v21) (
k_3 a1 (I .i64 1) r2) (
B1 (vbin .eql a0 (I .u8 116)) fun v22=>
Cd (W00 v22) (
k_3 a1 a3 r2) (
B1 (vbin .eql a0 (I .u8 45)) fun v23=>
Cd (W00 v23) (
k_3 a1 (I .i64 0) r2) (
k_3 a1 (I .i64 (-1)) r2)))))))
theorem S219:SE4 219 k219 s219:=fun _ _ _ _ _ _ _ _=>by kernel_rfl
def k220:KT:=(.n (.l [0]) (.n (.l [2]) (.l [])))
def s220:F1:=fun lp c z a0 rg=>
B2 (c (.fn 303) [(AV.c (.p (.v (.slice none 0 0)))),a0] rg) fun v1 r2=>
Fin z rg.length [v1] r2
theorem S220:SE1 220 k220 s220:=fun _ _ _ _ _=>by kernel_rfl
def k221:KT:=(.n (.l [1]) (.n (.l [1,3]) (.n (.l [4]) (.n (.l [2]) (.l [])))))
def s221:F1:=fun lp c z a0 rg=>
B2 (vbox a0 rg) fun v1 r2=>
FL 3 v1 r2 fun v4=>
B1 (vlen v4) fun v5=>
B1 (vmm false v5 (I .i64 4)) fun v6=>
FL 0 v1 r2 fun v8=>
B1 (vfad 1 v1) fun v9=>
L1 r2 v9 fun v10=>
B1 (vfad 1 v1) fun v11=>
L1 r2 v11 fun v12=>
B1 (W06 [(.int .i64 0),(.int .i64 0),(.int .i64 0),(.int .i64 0)] [(0,1,(I .i64 4)),(1,1,(I .i64 0)),(2,1,(I .i64 1)),(3,1,(I .i64 1))]) fun v13=>
B1 (vfad 2 v1) fun v14=>
L1 r2 v14 fun v15=>
B1 (W06 [(.int .i64 0),(.int .i64 0),(.int .i64 0),(.int .i64 0)] [(0,1,(I .i64 6)),(1,1,(I .i64 0)),(2,1,(I .i64 1)),(3,1,(I .i64 1))]) fun v16=>
B1 (W06 [(.int .i64 0),(.int .i64 0),(.int .i64 0),(.int .i64 0)] [(0,1,(I .i64 7)),(1,1,(I .i64 0)),(2,1,v6),(3,1,(I .i64 1))]) fun v17=>
B1 (W06 [(.int .i64 0),(.int .i64 0),(.int .i64 0),(.int .i64 0)] [(0,1,(I .i64 8)),(1,1,(I .i64 0)),(2,1,v6),(3,1,(I .i64 1))]) fun v18=>
B2 (c (.fn 133) [v8,(I .i64 0),(I .i64 4)] r2) fun v19 r20=>
L1 r20 v9 fun v21=>
Sm v21 v10 (
L1 r20 v11 fun v22=>
Sm v22 v12 (
L1 r20 v14 fun v23=>
Sm v23 v15 (
B1 (W06 [(.int .i64 0),(.int .i64 0),(.int .i64 0),(.int .i64 0)] [(0,1,(I .i64 1)),(1,1,(I .i64 0)),(2,1,v19),(3,1,(I .i64 1))]) fun v24=>
B2 (c (.fn 133) [v10,(I .i64 0),(I .i64 6)] r20) fun v25 r26=>
L1 r26 v11 fun v27=>
Sm v27 v12 (
L1 r26 v14 fun v28=>
Sm v28 v15 (
B1 (W06 [(.int .i64 0),(.int .i64 0),(.int .i64 0),(.int .i64 0)] [(0,1,(I .i64 2)),(1,1,(I .i64 1)),(2,1,v25),(3,1,(I .i64 1))]) fun v29=>
B2 (c (.fn 133) [v12,(I .i64 0),(I .i64 6)] r26) fun v30 r31=>
L1 r31 v14 fun v32=>
Sm v32 v15 (
B1 (W06 [(.int .i64 0),(.int .i64 0),(.int .i64 0),(.int .i64 0)] [(0,1,(I .i64 3)),(1,1,(I .i64 1)),(2,1,v30),(3,1,(I .i64 2))]) fun v33=>
B2 (c (.fn 133) [v15,(I .i64 0),(I .i64 2)] r31) fun v34 r35=>
B1 (W06 [(.int .i64 0),(.int .i64 0),(.int .i64 0),(.int .i64 0)] [(0,1,(I .i64 5)),(1,1,(I .i64 0)),(2,1,v6),(3,1,v34)]) fun v36=>
B1 (W06 [(.int .i64 0),(.int .i64 0),(.int .i64 0),(.int .i64 0),(.int .i64 0),(.int .i64 0),(.int .i64 0),(.int .i64 0),(.int .i64 0),(.int .i64 0),(.int .i64 0),(.int .i64 0),(.int .i64 0),(.int .i64 0),(.int .i64 0),(.int .i64 0),(.int .i64 0),(.int .i64 0),(.int .i64 0),(.int .i64 0),(.int .i64 0),(.int .i64 0),(.int .i64 0),(.int .i64 0),(.int .i64 0),(.int .i64 0),(.int .i64 0),(.int .i64 0),(.int .i64 0),(.int .i64 0),(.int .i64 0),(.int .i64 0)] [(0,4,v24),(4,4,v29),(8,4,v33),(12,4,v13),(16,4,v36),(20,4,v16),(24,4,v17),(28,4,v18)]) fun v37=>
B2 (W08 [(.int .i64 0),(.int .i64 0),(.int .i64 0),(.int .i64 0),(.int .i64 0),(.int .i64 0),(.int .i64 0),(.int .i64 0),(.int .i64 0),(.int .i64 0),(.int .i64 0),(.int .i64 0),(.int .i64 0),(.int .i64 0),(.int .i64 0),(.int .i64 0),(.int .i64 0),(.int .i64 0),(.int .i64 0),(.int .i64 0),(.int .i64 0),(.int .i64 0),(.int .i64 0),(.int .i64 0),(.int .i64 0),(.int .i64 0),(.int .i64 0),(.int .i64 0),(.int .i64 0),(.int .i64 0),(.int .i64 0),(.int .i64 0)] r35) fun v38 r39=>
B0 (W03 r39 32 v38 v37) fun r40=>
B1 (mkfn (.func 304) (W0h faOf []) (W0h faOf [v38])) fun v41=>
Fin z rg.length [v41] r40))))))
theorem S221:SE1 221 k221 s221:=fun _ _ _ _ _=>by kernel_rfl
def V3g:KT:=(.n (.l [2,4,6,8,9,13,14,15,16]) (.n (.n (.l []) (.l [])) (.n (.n (.l [2,4,6,8,9,11,13,14,15]) (.n (.l [2,4,6,8,9,11,13,14,15,28]) (.n (.l [2,4,6,8,9,13,14,15]) (.l [])))) (.l [2,4,6,8,9,13,14,15]))))
def k222:KT:=(.n (.l [0,2,4,6]) (.n (.l [0,2,4,6,8]) (.n (.l [0,2,4,6,8,9]) (.n (.n (.l [2,4,6,8,9,13,14,15]) V3g) (.n (.l [6,7]) (.l []))))))
def Wb4:FB:=fun lp c n0 s=>
B1 (vbin .lss (s.g 15) (s.g 14)) fun v10=>
Cd (W00 v10) (
Jn (κ:=AV→AV→AV→AV→AV→AV→AV→AV→List Reg→Option (Exit×St)) (fun j2_11 j4_11 j6_11 j8_11 j9_11 j13_11 j14_11 j15_11 rj_11=>
B1 (vbin .add j15_11 (I .i64 1)) fun v12=>
some (.normal,(⟨[(15,v12),(14,j14_11),(13,j13_11),(9,j9_11),(8,j8_11),(6,j6_11),(4,j4_11),(2,j2_11)],rj_11⟩:St))) fun k_11=>
B1 (vixs 8 (s.g 15) (s.g 13)) fun v13=>
B1 (W01 s.regs 8 true v13) fun v14=>
B2 (W08 [(.int .i64 0),(.int .i64 0),(.int .i64 0),(.int .i64 0),(.int .i64 0),(.int .i64 0),(.int .i64 0),(.int .i64 0)] s.regs) fun v15 r16=>
B0 (W03 r16 8 v15 v14) fun r17=>
B1 (vfad 0 v15) fun v18=>
B1 (W01 r17 3 true v18) fun v19=>
B1 (W01 r17 3 true (s.g 4)) fun v20=>
B1 (veqs Go.Proofs.Tryz.prog false 128 [.i64,.i64,.i64] v19 v20) fun v21=>
B1 (Gv true v21 (vfad 6 v15)) fun v22=>
B1 (Gv true v21 (W01 r17 1 false v22)) fun v23=>
B1 (Gv true v21 (some (s.g 2))) fun v24=>
B1 (Gv true v21 (vbin .eql v23 v24)) fun v25=>
B1 (W0c v21 v25 (Bo false)) fun v26=>
Cd (W00 v26) (
B1 (vfad 3 v15) fun v27=>
B1 (W01 r17 3 true v27) fun v28=>
B0 (W03 r17 3 (s.g 8) v28) fun r29=>
k_11 (s.g 2) (s.g 4) (s.g 6) (s.g 8) (Bo true) (s.g 13) (s.g 14) (s.g 15) r29) (
k_11 (s.g 2) (s.g 4) (s.g 6) (s.g 8) (s.g 9) (s.g 13) (s.g 14) (s.g 15) r17)) (
some ((.exit 0),(⟨[(16,v10),(15,(s.g 15)),(14,(s.g 14)),(13,(s.g 13)),(9,(s.g 9)),(8,(s.g 8)),(6,(s.g 6)),(4,(s.g 4)),(2,(s.g 2))],s.regs⟩:St)))
def s222:F3:=fun lp c z a0 a1 a2 rg=>
B2 (vbox a1 rg) fun v1 r2=>
B2 (W08 [(.int .i64 0),(.int .i64 0),(.int .i64 0)] r2) fun v3 r4=>
B2 (W08 [(.int .i64 0),(.int .i64 0),(.int .i64 0)] r4) fun v5 r6=>
B2 (c (.fn 112) [a0] r6) fun v7 r8=>
B1 (vlen v7) fun v9=>
B3 (lp (Wb4 lp c rg.length) (⟨[(15,(I .i64 0)),(14,v9),(13,v7),(9,(Bo false)),(8,v5),(6,v3),(4,v1),(2,a2)],r8⟩:St)) fun e30 s31=>X3 e30 (
none) (
Rc z rg.length (cons? (W0q (lk s31.slots 6) s31.regs 3 true) (cons? (some (lk s31.slots 7)) (some []))) s31.regs) (fun i32=>
(bif Nat.beq i32 0 then (
B1 (W01 s31.regs 3 true (s31.g 8)) fun v34=>
B0 (W03 s31.regs 3 (s31.g 6) v34) fun r35=>
Rc z rg.length (cons? (W0q (s31.g 6) r35 3 true) (cons? (some (s31.g 9)) (some []))) r35)else (
none)))
theorem S222:SE3 222 k222 s222:=fun _ _ _ _ _ _ _=>by kernel_rfl
def k223:KT:=(.n (.l [2,3,4]) (.n (.n (.l [2,3,4,11]) (.n (.n (.l [4,5]) (.n (.l [4]) (.l []))) (.l []))) (.n (.l [4,7]) (.n (.l [4]) (.l [])))))
def s223:F2:=fun lp c z a0 a1 rg=>
B2 (vbox a0 rg) fun v1 r2=>
B2 (vbox a1 r2) fun v3 r4=>
B2 (W08 [(.int .i64 0),(.int .i64 0),(.int .i64 0)] r4) fun v5 r6=>
FL 0 v3 r6 fun v8=>
B1 (vbin .eql v8 (I .i64 3)) fun v9=>
Cd (W00 v9) (
FL 1 v1 r6 fun v11=>
FL 1 v3 r6 fun v13=>
FL 2 v3 r6 fun v15=>
B2 (c (.fn 305) [v11,v13,v15] r6) fun v16 r17=>
B1 (vext 0 v16) fun v18=>
B1 (vext 1 v16) fun v19=>
B2 (W08 [(.int .i64 0),(.int .i64 0),(.int .i64 0)] r17) fun v20 r21=>
B0 (W03 r21 3 v20 v18) fun r22=>
B1 (W01 r22 3 true v20) fun v23=>
B0 (W03 r22 3 v5 v23) fun r24=>
Rc z rg.length (cons? (W0q v5 r24 3 true) (some [])) r24) (
FL 0 v1 r6 fun v26=>
B1 (W01 r6 3 true v3) fun v27=>
B2 (c (.fn 281) [v26,v27] r6) fun v28 r29=>
B1 (vext 0 v28) fun v30=>
B1 (vext 1 v28) fun v31=>
B2 (W08 [(.int .i64 0),(.int .i64 0),(.int .i64 0)] r29) fun v32 r33=>
B0 (W03 r33 3 v32 v30) fun r34=>
B1 (W01 r34 3 true v32) fun v35=>
B0 (W03 r34 3 v5 v35) fun r36=>
Rc z rg.length (cons? (W0q v5 r36 3 true) (some [])) r36)
theorem S223:SE2 223 k223 s223:=fun _ _ _ _ _ _=>by kernel_rfl
def k224:KT:=(.n (.l [1,3,5,6]) (.n (.n (.l [1,3,5,6,10]) (.n (.l [1,3,5,6,10,11]) (.n (.n (.l [6]) (.l [])) (.n (.l [3,5,6,10,21]) (.n (.n (.l [6]) (.l [])) (.n (.l [3,5,6,32]) (.n (.n (.l [6]) (.l [])) (.l [])))))))) (.n (.l [6,7,8]) (.n (.n (.l [6,7,42]) (.n (.n (.l [6]) (.l [])) (.l []))) (.n (.l [6]) (.l []))))))
def s224:F3:=fun lp c z a0 a1 a2 rg=>
B2 (vbox a0 rg) fun v1 r2=>
B2 (vbox a2 r2) fun v3 r4=>
B2 (W08 [(.int .i64 0),(.int .i64 0),(.int .i64 0),(.int .i64 0),(.int .i64 0),(.int .i64 0),(.int .i64 0),(.int .i64 0),(.int .i64 0),(.int .i64 0),(.int .i64 0),(.int .i64 0),(.int .i64 0),(.int .i64 0)] r4) fun v5 r6=>
FL 0 v3 r6 fun v8=>
B1 (vbin .eql v8 (I .i64 1)) fun v9=>
Cd (W00 v9) (
B1 (vfad 2 v3) fun v10=>
L1 r6 v10 fun v11=>
B2 (W0x r6 1 1 [(.int .i64 0)] [(0,a1)]) fun v12 r13=>
L1 r13 v10 fun v14=>
Sm v14 v11 (
B2 (c (.fn 193) [(I .i64 7),v12] r13) fun v15 r16=>
L1 r16 v10 fun v17=>
Sm v17 v11 (
B2 (c (.fn 306) [v11] r16) fun v18 r19=>
B2 (c (.fn 238) [v18] r19) fun v20 r21=>
B1 (W06 [(.int .i64 0),(.int .i64 0),(.int .i64 0),(.int .i64 0),(.int .i64 0),(.int .i64 0),(.int .i64 0),(.int .i64 0),(.int .i64 0),(.int .i64 0),(.int .i64 0),(.int .i64 0),(.int .i64 0),(.int .i64 0)] [(0,1,(I .i64 3)),(1,3,v15),(10,3,v20)]) fun v22=>
B0 (W03 r21 14 v5 v22) fun r23=>
Rc z rg.length (cons? (W0q v5 r23 14 true) (some [])) r23))) (
B1 (vbin .eql v8 (I .i64 6)) fun v24=>
Cd (W00 v24) (
B1 (vfad 2 v3) fun v25=>
L1 r6 v25 fun v26=>
B1 (vfad 2 v3) fun v27=>
L1 r6 v27 fun v28=>
B2 (c (.fn 193) [(I .i64 6),(AV.c (.p (.v (.slice none 0 0))))] r6) fun v29 r30=>
L1 r30 v25 fun v31=>
Sm v31 v26 (
L1 r30 v27 fun v32=>
Sm v32 v28 (
B2 (c (.fn 238) [v26] r30) fun v33 r34=>
L1 r34 v27 fun v35=>
Sm v35 v28 (
B2 (c (.fn 307) [v28,(I .i64 1)] r34) fun v36 r37=>
B2 (c (.fn 238) [v36] r37) fun v38 r39=>
B1 (W06 [(.int .i64 0),(.int .i64 0),(.int .i64 0),(.int .i64 0),(.int .i64 0),(.int .i64 0),(.int .i64 0),(.int .i64 0),(.int .i64 0),(.int .i64 0),(.int .i64 0),(.int .i64 0),(.int .i64 0),(.int .i64 0)] [(0,1,(I .i64 4)),(1,3,v29),(7,3,v33),(10,3,v38)]) fun v40=>
B0 (W03 r39 14 v5 v40) fun r41=>
Rc z rg.length (cons? (W0q v5 r41 14 true) (some [])) r41)))) (
B1 (vbin .eql v8 (I .i64 3)) fun v42=>
Cd (W00 v42) (
B1 (W06 [(.int .i64 0),(.int .i64 0),(.int .i64 0),(.int .i64 0),(.int .i64 0),(.int .i64 0),(.int .i64 0),(.int .i64 0),(.int .i64 0),(.int .i64 0),(.int .i64 0),(.int .i64 0),(.int .i64 0),(.int .i64 0)] [(0,1,(I .i64 10))]) fun v43=>
B0 (W03 r6 14 v5 v43) fun r44=>
Rc z rg.length (cons? (W0q v5 r44 14 true) (some [])) r44) (
B1 (W01 r6 4 true v1) fun v45=>
B1 (W01 r6 4 true v3) fun v46=>
B2 (c (.fn 308) [v45,v46] r6) fun v47 r48=>
B1 (vext 0 v47) fun v49=>
B1 (vext 1 v47) fun v50=>
B2 (W08 [(.int .i64 0),(.int .i64 0),(.int .i64 0)] r48) fun v51 r52=>
B0 (W03 r52 3 v51 v49) fun r53=>
B1 (vun .not v50) fun v54=>
Cd (W00 v54) (
B1 (W06 [(.int .i64 0),(.int .i64 0),(.int .i64 0),(.int .i64 0),(.int .i64 0),(.int .i64 0),(.int .i64 0),(.int .i64 0),(.int .i64 0),(.int .i64 0),(.int .i64 0),(.int .i64 0),(.int .i64 0),(.int .i64 0)] []) fun v55=>
B0 (W03 r53 14 v5 v55) fun r56=>
Rc z rg.length (cons? (W0q v5 r56 14 true) (some [])) r56) (
B1 (W01 r53 3 true v51) fun v57=>
B1 (W06 [(.int .i64 0),(.int .i64 0),(.int .i64 0),(.int .i64 0),(.int .i64 0),(.int .i64 0),(.int .i64 0),(.int .i64 0),(.int .i64 0),(.int .i64 0),(.int .i64 0),(.int .i64 0),(.int .i64 0),(.int .i64 0)] [(0,1,(I .i64 9)),(1,3,v57)]) fun v58=>
B0 (W03 r53 14 v5 v58) fun r59=>
Rc z rg.length (cons? (W0q v5 r59 14 true) (some [])) r59))))
theorem S224:SE3 224 k224 s224:=fun _ _ _ _ _ _ _=>by kernel_rfl
def k225:KT:=(.n (.l [0]) (.n (.l [2]) (.l [])))
def s225:F1:=fun lp c z a0 rg=>
B1 (vbin .leq (I .i64 11) a0) fun v1=>
B1 (Gv true v1 (some a0)) fun v2=>
B1 (Gv true v1 (vbin .leq v2 (I .i64 16))) fun v3=>
B1 (W0c v1 v3 (Bo false)) fun v4=>
B1 (Gv false v4 (some a0)) fun v5=>
B1 (Gv false v4 (vbin .leq (I .i64 18) v5)) fun v6=>
B1 (Gv false v4 (some v6)) fun v7=>
B1 (Gv true v7 (some a0)) fun v8=>
B1 (Gv true v7 (vbin .leq v8 (I .i64 25))) fun v9=>
B1 (Gv false v4 (W0c v7 v9 (Bo false))) fun v10=>
B1 (W0c v4 (Bo true) v10) fun v11=>
Fin z rg.length [v11] rg
theorem S225:SE1 225 k225 s225:=fun _ _ _ _ _=>by kernel_rfl
def k226:KT:=(.n (.l [0,3,5,6,8]) (.n (.l [0,3,6,8,9,10,11]) (.n (.n (.l [0,3,6,8,9,10,11,25]) (.n (.l [0,3,6,8,9,10,11,25,26]) (.n (.n (.l [8]) (.l [])) (.n (.l [0,3,6,8,9,10,11,25,29]) (.n (.n (.l [8]) (.l [])) (.n (.l [0,3,6,8,9,10,11,25,36]) (.n (.n (.l [8]) (.l [])) (.n (.l [0,3,6,8,9,10,11,25,44]) (.n (.n (.l [8]) (.l [])) (.n (.l [0,3,6,8,9,10,11,25,53]) (.n (.n (.l [8]) (.l [])) (.n (.l [0,3,6,8,9,10,11,25,63]) (.n (.n (.l [8]) (.l [])) (.n (.l [0,3,6,8,9,10,11,25,74]) (.n (.n (.l [8]) (.l [])) (.n (.l [0,3,6,8,9,25,86]) (.n (.n (.l [8]) (.l [])) (.n (.l [0,3,6,8,9,25,89]) (.n (.n (.l [8]) (.l [])) (.n (.l [0,3,6,8,9,25,93]) (.n (.n (.l [8]) (.l [])) (.n (.l [0,3,6,8,9,25,97]) (.n (.n (.l [8]) (.l [])) (.n (.l [0,3,6,8,25,106]) (.n (.n (.l [8]) (.l [])) (.n (.l [0,3,8,25,114]) (.n (.n (.l [8]) (.l [])) (.n (.l [0,3,8,118]) (.n (.n (.l [8]) (.l [])) (.l [])))))))))))))))))))))))))))))) (.n (.l [8]) (.l [])))))
def s226:F4:=fun lp c z a0 a1 a2 a3 rg=>
B2 (vbox a1 rg) fun v1 r2=>
B2 (vbox a2 r2) fun v3 r4=>
B2 (W08 [(.int .i64 0),(.int .i64 0),(.int .i64 0),(.int .i64 0),(.int .i64 0),(.int .i64 0),(.int .i64 0),(.int .i64 0),(.int .i64 0),(.int .i64 0),(.int .i64 0),(.int .i64 0),(.int .i64 0),(.int .i64 0)] r4) fun v5 r6=>
B1 (W01 r6 22 true v1) fun v7=>
FL 1 v3 r6 fun v9=>
B1 (W01 r6 22 true v1) fun v10=>
B1 (vfad 2 v3) fun v11=>
L1 r6 v11 fun v12=>
B1 (W01 r6 22 true v1) fun v13=>
B1 (vfad 3 v3) fun v14=>
L1 r6 v14 fun v15=>
B2 (c (.fn 309) [v7,v9] r6) fun v16 r17=>
B1 (W01 r17 22 true v1) fun v18=>
Sm v18 v10 (
L1 r17 v11 fun v19=>
Sm v19 v12 (
B1 (W01 r17 22 true v1) fun v20=>
Sm v20 v13 (
L1 r17 v14 fun v21=>
Sm v21 v15 (
B2 (c (.fn 309) [v10,v12] r17) fun v22 r23=>
B1 (W01 r23 22 true v1) fun v24=>
Sm v24 v13 (
L1 r23 v14 fun v25=>
Sm v25 v15 (
B2 (c (.fn 309) [v13,v15] r23) fun v26 r27=>
B2 (W08 [(.int .i64 0),(.int .i64 0),(.int .i64 0)] r27) fun v28 r29=>
B2 (W08 [(.int .i64 0),(.int .i64 0),(.int .i64 0)] r29) fun v30 r31=>
B2 (W08 [(.int .i64 0),(.int .i64 0),(.int .i64 0)] r31) fun v32 r33=>
B0 (W03 r33 3 v28 v16) fun r34=>
B0 (W03 r34 3 v30 v22) fun r35=>
B0 (W03 r35 3 v32 v26) fun r36=>
FL 0 v3 r36 fun v38=>
B1 (vbin .eql v38 (I .i64 17)) fun v39=>
Cd (W00 v39) (
B1 (W06 [(.int .i64 0),(.int .i64 0),(.int .i64 0),(.int .i64 0),(.int .i64 0),(.int .i64 0),(.int .i64 0),(.int .i64 0),(.int .i64 0),(.int .i64 0),(.int .i64 0),(.int .i64 0),(.int .i64 0),(.int .i64 0)] [(0,1,(I .i64 5))]) fun v40=>
B0 (W03 r36 14 v5 v40) fun r41=>
Rc z rg.length (cons? (W0q v5 r41 14 true) (some [])) r41) (
B1 (vbin .eql v38 (I .i64 11)) fun v42=>
Cd (W00 v42) (
FL 2 v3 r36 fun v44=>
B2 (W0x r36 1 1 [(.int .i64 0)] [(0,v44)]) fun v45 r46=>
B2 (c (.fn 193) [(I .i64 1),v45] r46) fun v47 r48=>
B1 (W06 [(.int .i64 0),(.int .i64 0),(.int .i64 0),(.int .i64 0),(.int .i64 0),(.int .i64 0),(.int .i64 0),(.int .i64 0),(.int .i64 0),(.int .i64 0),(.int .i64 0),(.int .i64 0),(.int .i64 0),(.int .i64 0)] [(0,1,(I .i64 2)),(1,3,v47)]) fun v49=>
B0 (W03 r48 14 v5 v49) fun r50=>
Rc z rg.length (cons? (W0q v5 r50 14 true) (some [])) r50) (
B1 (vbin .eql v38 (I .i64 12)) fun v51=>
Cd (W00 v51) (
FL 1 v3 r36 fun v53=>
B1 (W01 r36 3 true v30) fun v54=>
B2 (W0x r36 1 1 [(.int .i64 0)] [(0,v53)]) fun v55 r56=>
B1 (W01 r56 3 true v30) fun v57=>
Sm v57 v54 (
B2 (c (.fn 193) [(I .i64 1),v55] r56) fun v58 r59=>
B1 (W01 r59 3 true v30) fun v60=>
Sm v60 v54 (
B1 (W06 [(.int .i64 0),(.int .i64 0),(.int .i64 0),(.int .i64 0),(.int .i64 0),(.int .i64 0),(.int .i64 0),(.int .i64 0),(.int .i64 0),(.int .i64 0),(.int .i64 0),(.int .i64 0),(.int .i64 0),(.int .i64 0)] [(0,1,(I .i64 3)),(1,3,v58),(10,3,v54)]) fun v61=>
B0 (W03 r59 14 v5 v61) fun r62=>
Rc z rg.length (cons? (W0q v5 r62 14 true) (some [])) r62))) (
B1 (vbin .eql v38 (I .i64 13)) fun v63=>
Cd (W00 v63) (
FL 4 v3 r36 fun v65=>
B1 (W01 r36 3 true v30) fun v66=>
B1 (W01 r36 3 true v32) fun v67=>
B2 (W0x r36 1 1 [(.int .i64 0)] [(0,v65)]) fun v68 r69=>
B1 (W01 r69 3 true v30) fun v70=>
Sm v70 v66 (
B1 (W01 r69 3 true v32) fun v71=>
Sm v71 v67 (
B2 (c (.fn 193) [(I .i64 1),v68] r69) fun v72 r73=>
B1 (W01 r73 3 true v30) fun v74=>
Sm v74 v66 (
B1 (W01 r73 3 true v32) fun v75=>
Sm v75 v67 (
B1 (W06 [(.int .i64 0),(.int .i64 0),(.int .i64 0),(.int .i64 0),(.int .i64 0),(.int .i64 0),(.int .i64 0),(.int .i64 0),(.int .i64 0),(.int .i64 0),(.int .i64 0),(.int .i64 0),(.int .i64 0),(.int .i64 0)] [(0,1,(I .i64 4)),(1,3,v72),(7,3,v66),(10,3,v67)]) fun v76=>
B0 (W03 r73 14 v5 v76) fun r77=>
Rc z rg.length (cons? (W0q v5 r77 14 true) (some [])) r77))))) (
B1 (vbin .eql v38 (I .i64 14)) fun v78=>
Cd (W00 v78) (
B1 (W01 r36 3 true v30) fun v79=>
FL 4 v3 r36 fun v81=>
B1 (W01 r36 3 true v30) fun v82=>
B1 (vfad 2 v30) fun v83=>
L1 r36 v83 fun v84=>
B2 (c (.fn 310) [v79,v81] r36) fun v85 r86=>
B1 (W01 r86 3 true v30) fun v87=>
Sm v87 v82 (
L1 r86 v83 fun v88=>
Sm v88 v84 (
B1 (W06 [(.int .i64 0),(.int .i64 0),(.int .i64 0),(.int .i64 0),(.int .i64 0),(.int .i64 0),(.int .i64 0),(.int .i64 0),(.int .i64 0),(.int .i64 0),(.int .i64 0),(.int .i64 0),(.int .i64 0),(.int .i64 0)] [(0,1,(I .i64 2)),(1,3,v85),(4,3,v82),(13,1,v84)]) fun v89=>
B0 (W03 r86 14 v5 v89) fun r90=>
Rc z rg.length (cons? (W0q v5 r90 14 true) (some [])) r90))) (
B1 (vbin .eql v38 (I .i64 15)) fun v91=>
Cd (W00 v91) (
B1 (W01 r36 3 true v28) fun v92=>
FL 4 v3 r36 fun v94=>
B1 (W01 r36 3 true v28) fun v95=>
B1 (W01 r36 3 true v30) fun v96=>
B1 (vfad 2 v28) fun v97=>
L1 r36 v97 fun v98=>
B2 (c (.fn 310) [v92,v94] r36) fun v99 r100=>
B1 (W01 r100 3 true v28) fun v101=>
Sm v101 v95 (
B1 (W01 r100 3 true v30) fun v102=>
Sm v102 v96 (
L1 r100 v97 fun v103=>
Sm v103 v98 (
B1 (W06 [(.int .i64 0),(.int .i64 0),(.int .i64 0),(.int .i64 0),(.int .i64 0),(.int .i64 0),(.int .i64 0),(.int .i64 0),(.int .i64 0),(.int .i64 0),(.int .i64 0),(.int .i64 0),(.int .i64 0),(.int .i64 0)] [(0,1,(I .i64 3)),(1,3,v99),(4,3,v95),(10,3,v96),(13,1,v98)]) fun v104=>
B0 (W03 r100 14 v5 v104) fun r105=>
Rc z rg.length (cons? (W0q v5 r105 14 true) (some [])) r105)))) (
B1 (vbin .eql v38 (I .i64 16)) fun v106=>
Cd (W00 v106) (
B1 (W01 r36 3 true v28) fun v107=>
FL 4 v3 r36 fun v109=>
B1 (W01 r36 3 true v28) fun v110=>
B1 (W01 r36 3 true v30) fun v111=>
B1 (W01 r36 3 true v32) fun v112=>
B1 (vfad 2 v28) fun v113=>
L1 r36 v113 fun v114=>
B2 (c (.fn 310) [v107,v109] r36) fun v115 r116=>
B1 (W01 r116 3 true v28) fun v117=>
Sm v117 v110 (
B1 (W01 r116 3 true v30) fun v118=>
Sm v118 v111 (
B1 (W01 r116 3 true v32) fun v119=>
Sm v119 v112 (
L1 r116 v113 fun v120=>
Sm v120 v114 (
B1 (W06 [(.int .i64 0),(.int .i64 0),(.int .i64 0),(.int .i64 0),(.int .i64 0),(.int .i64 0),(.int .i64 0),(.int .i64 0),(.int .i64 0),(.int .i64 0),(.int .i64 0),(.int .i64 0),(.int .i64 0),(.int .i64 0)] [(0,1,(I .i64 4)),(1,3,v115),(4,3,v110),(7,3,v111),(10,3,v112),(13,1,v114)]) fun v121=>
B0 (W03 r116 14 v5 v121) fun r122=>
Rc z rg.length (cons? (W0q v5 r122 14 true) (some [])) r122))))) (
B1 (vbin .eql v38 (I .i64 18)) fun v123=>
Cd (W00 v123) (
B1 (W06 [(.int .i64 0),(.int .i64 0),(.int .i64 0),(.int .i64 0),(.int .i64 0),(.int .i64 0),(.int .i64 0),(.int .i64 0),(.int .i64 0),(.int .i64 0),(.int .i64 0),(.int .i64 0),(.int .i64 0),(.int .i64 0)] [(0,1,(I .i64 6))]) fun v124=>
B0 (W03 r36 14 v5 v124) fun r125=>
Rc z rg.length (cons? (W0q v5 r125 14 true) (some [])) r125) (
B1 (vbin .eql v38 (I .i64 19)) fun v126=>
Cd (W00 v126) (
B1 (W01 r36 3 true v28) fun v127=>
B1 (W06 [(.int .i64 0),(.int .i64 0),(.int .i64 0),(.int .i64 0),(.int .i64 0),(.int .i64 0),(.int .i64 0),(.int .i64 0),(.int .i64 0),(.int .i64 0),(.int .i64 0),(.int .i64 0),(.int .i64 0),(.int .i64 0)] [(0,1,(I .i64 7)),(4,3,v127)]) fun v128=>
B0 (W03 r36 14 v5 v128) fun r129=>
Rc z rg.length (cons? (W0q v5 r129 14 true) (some [])) r129) (
B1 (vbin .eql v38 (I .i64 20)) fun v130=>
Cd (W00 v130) (
B1 (W01 r36 3 true v28) fun v131=>
B1 (W06 [(.int .i64 0),(.int .i64 0),(.int .i64 0),(.int .i64 0),(.int .i64 0),(.int .i64 0),(.int .i64 0),(.int .i64 0),(.int .i64 0),(.int .i64 0),(.int .i64 0),(.int .i64 0),(.int .i64 0),(.int .i64 0)] [(0,1,(I .i64 8)),(4,3,v131)]) fun v132=>
B0 (W03 r36 14 v5 v132) fun r133=>
Rc z rg.length (cons? (W0q v5 r133 14 true) (some [])) r133) (
B1 (vbin .eql v38 (I .i64 21)) fun v134=>
Cd (W00 v134) (
FL 4 v3 r36 fun v136=>
B1 (W01 r36 3 true v28) fun v137=>
B2 (W0x r36 1 2 [(.int .i64 0)] [(0,a0),(1,v136)]) fun v138 r139=>
B1 (W01 r139 3 true v28) fun v140=>
Sm v140 v137 (
B2 (c (.fn 193) [(I .i64 5),v138] r139) fun v141 r142=>
B1 (W01 r142 3 true v28) fun v143=>
Sm v143 v137 (
B1 (W06 [(.int .i64 0),(.int .i64 0),(.int .i64 0),(.int .i64 0),(.int .i64 0),(.int .i64 0),(.int .i64 0),(.int .i64 0),(.int .i64 0),(.int .i64 0),(.int .i64 0),(.int .i64 0),(.int .i64 0),(.int .i64 0)] [(0,1,(I .i64 3)),(1,3,v141),(10,3,v137)]) fun v144=>
B0 (W03 r142 14 v5 v144) fun r145=>
Rc z rg.length (cons? (W0q v5 r145 14 true) (some [])) r145))) (
B1 (vbin .eql v38 (I .i64 22)) fun v146=>
Cd (W00 v146) (
FL 4 v3 r36 fun v148=>
B2 (W0x r36 1 2 [(.int .i64 0)] [(0,a0),(1,v148)]) fun v149 r150=>
B2 (c (.fn 193) [(I .i64 5),v149] r150) fun v151 r152=>
B1 (W06 [(.int .i64 0),(.int .i64 0),(.int .i64 0),(.int .i64 0),(.int .i64 0),(.int .i64 0),(.int .i64 0),(.int .i64 0),(.int .i64 0),(.int .i64 0),(.int .i64 0),(.int .i64 0),(.int .i64 0),(.int .i64 0)] [(0,1,(I .i64 3)),(1,3,v151)]) fun v153=>
B0 (W03 r152 14 v5 v153) fun r154=>
Rc z rg.length (cons? (W0q v5 r154 14 true) (some [])) r154) (
B1 (vbin .eql v38 (I .i64 23)) fun v155=>
Cd (W00 v155) (
B2 (c (.fn 193) [(I .i64 6),(AV.c (.p (.v (.slice none 0 0))))] r36) fun v156 r157=>
B1 (W06 [(.int .i64 0),(.int .i64 0),(.int .i64 0),(.int .i64 0),(.int .i64 0),(.int .i64 0),(.int .i64 0),(.int .i64 0),(.int .i64 0),(.int .i64 0),(.int .i64 0),(.int .i64 0),(.int .i64 0),(.int .i64 0)] [(0,1,(I .i64 2)),(1,3,v156)]) fun v158=>
B0 (W03 r157 14 v5 v158) fun r159=>
Rc z rg.length (cons? (W0q v5 r159 14 true) (some [])) r159) (
B1 (vbin .eql v38 (I .i64 24)) fun v160=>
Cd (W00 v160) (
B2 (W0x r36 1 1 [(.int .i64 0)] [(0,a0)]) fun v161 r162=>
B2 (c (.fn 193) [(I .i64 7),v161] r162) fun v163 r164=>
B1 (W06 [(.int .i64 0),(.int .i64 0),(.int .i64 0),(.int .i64 0),(.int .i64 0),(.int .i64 0),(.int .i64 0),(.int .i64 0),(.int .i64 0),(.int .i64 0),(.int .i64 0),(.int .i64 0),(.int .i64 0),(.int .i64 0)] [(0,1,(I .i64 3)),(1,3,v163)]) fun v165=>
B0 (W03 r164 14 v5 v165) fun r166=>
Rc z rg.length (cons? (W0q v5 r166 14 true) (some [])) r166) (
B2 (W0x r36 1 1 [(.int .i64 0)] [(0,a0)]) fun v167 r168=>
B2 (c (.fn 193) [(I .i64 8),v167] r168) fun v169 r170=>
B2 (c (.fn 307) [a3,(I .i64 1)] r170) fun v171 r172=>
B2 (c (.fn 238) [v171] r172) fun v173 r174=>
B1 (W06 [(.int .i64 0),(.int .i64 0),(.int .i64 0),(.int .i64 0),(.int .i64 0),(.int .i64 0),(.int .i64 0),(.int .i64 0),(.int .i64 0),(.int .i64 0),(.int .i64 0),(.int .i64 0),(.int .i64 0),(.int .i64 0)] [(0,1,(I .i64 3)),(1,3,v169),(10,3,v173)]) fun v175=>
B0 (W03 r174 14 v5 v175) fun r176=>
Rc z rg.length (cons? (W0q v5 r176 14 true) (some [])) r176))))))))))))))))))))
theorem S226:SE4 226 k226 s226:=fun _ _ _ _ _ _ _ _=>by kernel_rfl
def k231:KT:=(.n (.l [0,1]) (.n (.l [0,1,5]) (.n (.n (.l [0,1,5,17]) (.n (.n (.l [4]) (.l [])) (.l []))) (.n (.l []) (.n (.l [4]) (.l []))))))
def s231:F2:=fun lp c z a0 a1 rg=>
B2 (c (.fn 243) [a0,a1] rg) fun v1 r2=>
B2 (xE (.nilq 0 false) [v1] r2) fun v3 r4=>
B1 (Gv false v3 (some v1)) fun v5=>
B1 (Gv false v3 (W0a v5)) fun v6=>
B1 (Gv false v3 (vfad 0 v6)) fun v7=>
B1 (Gv false v3 (W01 r4 1 false v7)) fun v8=>
B1 (Gv false v3 (vbin .eql v8 (I .i64 0))) fun v9=>
B1 (W0c v3 (Bo true) v9) fun v10=>
Cd (W00 v10) (
Fin z rg.length [(Bo false)] r4) (
B1 (W0a v1) fun v11=>
B1 (vfad 1 v11) fun v12=>
L1 r4 v12 fun v13=>
B1 (W06 [(.int .i64 0),(.int .i64 0),(.int .i64 0),(.int .i64 0),(.int .i64 0),(.int .i64 0),(.int .i64 0),(.int .i64 0),(.int .i64 0),(.int .i64 0)] [(1,1,v13)]) fun v14=>
B1 (W0a a0) fun v15=>
B1 (vfad 3 v15) fun v16=>
L1 r4 v16 fun v17=>
B2 (W0x r4 1 1 [(.int .i64 0)] [(0,a1)]) fun v18 r19=>
L1 r19 v12 fun v20=>
Sm v20 v13 (
L1 r19 v16 fun v21=>
Sm v21 v17 (
B2 (vapp r19 1 8 v18 v17) fun v22 r23=>
L1 r23 v12 fun v24=>
Sm v24 v13 (
B2 (c (.fn 311) [a0,a1,v14,v22] r23) fun v25 r26=>
Fin z rg.length [(Bo true)] r26))))
theorem S231:SE2 231 k231 s231:=fun _ _ _ _ _ _=>by kernel_rfl
def k233:KT:=(.n (.l [0,1]) (.n (.l [0,1,5]) (.n (.n (.l [1,5,7]) (.n (.n (.l [1,5,7,8]) (.n (.l []) (.n (.l [1,5,7,8]) (.n (.l []) (.l [1,5,7,8]))))) (.n (.l [1,5]) (.n (.l [1,5,7,13]) (.n (.l [1,5]) (.n (.l [1,5,16]) (.n (.l [1,5]) (.l [])))))))) (.n (.l [4]) (.l [])))))
def s233:F2:=fun lp c z a0 a1 rg=>
B1 (W06 [(.int .i64 0),(.int .i64 0),(.int .i64 0),(.int .i64 0)] []) fun v1=>
B2 (W08 [(.int .i64 0),(.int .i64 0),(.int .i64 0),(.int .i64 0)] rg) fun v2 r3=>
B0 (W03 r3 4 v2 v1) fun r4=>
Jn (κ:=AV→AV→AV→AV→List Reg→Option (AV×List Reg)) (fun j1_5 j5_5 j7_5 j8_5 rj_5=>
Cd (W00 j8_5) (
B1 (W06 [(.int .i64 0),(.int .i64 0),(.int .i64 0),(.int .i64 0)] [(0,1,(I .i64 5)),(1,1,(I .i64 1)),(2,1,(I .i64 0)),(3,1,(I .i64 0))]) fun v6=>
B0 (W03 rj_5 4 j5_5 v6) fun r7=>
B1 (vixa 4 1 j1_5 j5_5) fun v8=>
L1 r7 v8 fun v9=>
Fin z rg.length [v9] r7) (
B1 (vbin .eql j7_5 (I .i64 19)) fun v10=>
Cd (W00 v10) (
B1 (W06 [(.int .i64 0),(.int .i64 0),(.int .i64 0),(.int .i64 0)] [(0,1,(I .i64 5)),(1,1,(I .i64 2)),(2,1,(I .i64 0)),(3,1,(I .i64 2))]) fun v11=>
B0 (W03 rj_5 4 j5_5 v11) fun r12=>
B1 (vixa 4 1 j1_5 j5_5) fun v13=>
L1 r12 v13 fun v14=>
Fin z rg.length [v14] r12) (
B1 (vbin .eql j7_5 (I .i64 20)) fun v15=>
Cd (W00 v15) (
B1 (W06 [(.int .i64 0),(.int .i64 0),(.int .i64 0),(.int .i64 0)] [(0,1,(I .i64 5)),(1,1,(I .i64 1)),(2,1,(I .i64 0)),(3,1,(I .i64 3))]) fun v16=>
B0 (W03 rj_5 4 j5_5 v16) fun r17=>
B1 (vixa 4 1 j1_5 j5_5) fun v18=>
L1 r17 v18 fun v19=>
Fin z rg.length [v19] r17) (
B1 (vixa 4 1 j1_5 j5_5) fun v20=>
L1 rj_5 v20 fun v21=>
Fin z rg.length [v21] rj_5)))) fun k_5=>
B1 (vbin .eql a0 (I .i64 14)) fun v22=>
Cd (W00 v22) (
k_5 a1 v2 a0 v22 r4) (
B1 (vbin .eql a0 (I .i64 15)) fun v23=>
Cd (W00 v23) (
k_5 a1 v2 a0 v23 r4) (
B1 (vbin .eql a0 (I .i64 16)) fun v24=>
k_5 a1 v2 a0 v24 r4))
theorem S233:SE2 233 k233 s233:=fun _ _ _ _ _ _=>by kernel_rfl
def k235:KT:=(.n (.l [1,3,5,6]) (.n (.l [1,3,5,6]) (.n (.n (.l [1,3,5,6,10]) (.n (.l [3,6]) (.l []))) (.n (.l [6]) (.l [])))))
def s235:F3:=fun lp c z a0 a1 a2 rg=>
B2 (vbox a0 rg) fun v1 r2=>
B2 (vbox a2 r2) fun v3 r4=>
B2 (W08 [(.int .i64 0),(.int .i64 0),(.int .i64 0),(.int .i64 0),(.int .i64 0),(.int .i64 0),(.int .i64 0),(.int .i64 0),(.int .i64 0),(.int .i64 0),(.int .i64 0),(.int .i64 0),(.int .i64 0),(.int .i64 0),(.int .i64 0),(.int .i64 0),(.int .i64 0),(.int .i64 0),(.slice none 0 0),(.slice none 0 0),(.slice none 0 0),(.int .i64 0)] r4) fun v5 r6=>
B1 (W01 r6 22 true v1) fun v7=>
B2 (c (.fn 111) [v7] r6) fun v8 r9=>
B0 (W03 r9 22 v1 v8) fun r10=>
B2 (c (.fn 71) [a1,(I .i64 0),(I .i64 3)] r10) fun v11 r12=>
Cd (W00 v11) (
B1 (W01 r12 3 true v3) fun v13=>
B1 (vfad 3 v1) fun v14=>
B1 (vixa 4 3 a1 v14) fun v15=>
B0 (W03 r12 3 v15 v13) fun r16=>
B1 (W01 r16 22 true v1) fun v17=>
B0 (W03 r16 22 v5 v17) fun r18=>
Rc z rg.length (cons? (W0q v5 r18 22 true) (some [])) r18) (
B1 (W01 r12 22 true v1) fun v19=>
B0 (W03 r12 22 v5 v19) fun r20=>
Rc z rg.length (cons? (W0q v5 r20 22 true) (some [])) r20)
theorem S235:SE3 235 k235 s235:=fun _ _ _ _ _ _ _=>by kernel_rfl
def k238:KT:=(.n (.l [0,2]) (.n (.l [2]) (.l [])))
def s238:F1:=fun lp c z a0 rg=>
B2 (W08 [(.int .i64 0),(.int .i64 0),(.int .i64 0)] rg) fun v1 r2=>
B1 (W06 [(.int .i64 0),(.int .i64 0),(.int .i64 0)] [(0,1,a0)]) fun v3=>
B0 (W03 r2 3 v1 v3) fun r4=>
Rc z rg.length (cons? (W0q v1 r4 3 true) (some [])) r4
theorem S238:SE1 238 k238 s238:=fun _ _ _ _ _=>by kernel_rfl
def k239:KT:=(.n (.l [0,1,2,6]) (.n (.n (.l [0,1,2,6,19]) (.n (.n (.l [6,7]) (.l [])) (.l []))) (.n (.l [0,1,2,6,8]) (.n (.l [0,1,2,6,8,9]) (.n (.l [6,8,9]) (.n (.l [6,7]) (.l [])))))))
def s239:F3:=fun lp c z a0 a1 a2 rg=>
B2 (W08 [(.int .i64 0),(.int .i64 0),(.int .i64 0)] rg) fun v1 r2=>
B2 (xE (.nilq 0 false) [a0] r2) fun v3 r4=>
B1 (Gv false v3 (some a0)) fun v5=>
B1 (Gv false v3 (W0a v5)) fun v6=>
B1 (Gv false v3 (vfad 3 v6)) fun v7=>
B1 (Gv false v3 (W01 r4 1 false v7)) fun v8=>
B1 (Gv false v3 (vlen v8)) fun v9=>
B1 (Gv false v3 (vbin .eql v9 (I .i64 0))) fun v10=>
B1 (W0c v3 (Bo true) v10) fun v11=>
Cd (W00 v11) (
B1 (W06 [(.int .i64 0),(.int .i64 0),(.int .i64 0)] []) fun v12=>
B0 (W03 r4 3 v1 v12) fun r13=>
Rc z rg.length (cons? (W0q v1 r13 3 true) (cons? (some (Bo false)) (some []))) r13) (
B1 (W0a a0) fun v14=>
FL 3 v14 r4 fun v16=>
B1 (vixs 1 (I .i64 0) v16) fun v17=>
L1 r4 v17 fun v18=>
B2 (c (.fn 243) [a0,v18] r4) fun v19 r20=>
B1 (W0a v19) fun v21=>
FL 1 v21 r20 fun v23=>
B1 (vbin .add v23 (I .i64 1)) fun v24=>
B1 (W06 [(.int .i64 0),(.int .i64 0),(.int .i64 0),(.int .i64 0),(.int .i64 0),(.int .i64 0),(.int .i64 0),(.int .i64 0),(.int .i64 0),(.int .i64 0)] [(0,1,(I .i64 1)),(1,1,v24),(2,1,a1),(3,1,a2)]) fun v25=>
B1 (W0a a0) fun v26=>
FL 3 v26 r20 fun v28=>
B1 (vsls 1 v28 (some (I .i64 1)) none none) fun v29=>
B2 (c (.fn 311) [a0,v18,v25,v29] r20) fun v30 r31=>
B2 (c (.fn 146) [v18,v24] r31) fun v32 r33=>
B0 (W03 r33 3 v1 v32) fun r34=>
Rc z rg.length (cons? (W0q v1 r34 3 true) (cons? (some (Bo true)) (some []))) r34)
theorem S239:SE3 239 k239 s239:=fun _ _ _ _ _ _ _=>by kernel_rfl
def k243:KT:=(.n (.l [0,1]) (.n (.n (.l [0,1,23]) (.n (.n (.l [4]) (.l [])) (.l []))) (.n (.l [4]) (.l []))))
def s243:F2:=fun lp c z a0 a1 rg=>
B2 (xE (.nilq 0 false) [a0] rg) fun v1 r2=>
B1 (Gv false v1 (some a0)) fun v3=>
B1 (Gv false v1 (W0a v3)) fun v4=>
B1 (Gv false v1 (vfad 1 v4)) fun v5=>
B1 (Gv false v1 (W01 r2 1 false v5)) fun v6=>
B1 (Gv false v1 (vun .not v6)) fun v7=>
B1 (W0c v1 (Bo true) v7) fun v8=>
B1 (Gv false v8 (some a1)) fun v9=>
B1 (Gv false v8 (some a0)) fun v10=>
B1 (Gv false v8 (W0a v10)) fun v11=>
B1 (Gv false v8 (vfad 2 v11)) fun v12=>
B1 (Gv false v8 (W01 r2 1 false v12)) fun v13=>
B1 (Gv false v8 (vlen v13)) fun v14=>
B2 (Gr false v8 r2 (c (.fn 71) [v9,(I .i64 1),v14] r2)) fun v15 r16=>
B1 (Gv false v8 (vun .not v15)) fun v17=>
B1 (W0c v8 (Bo true) v17) fun v18=>
Cd (W00 v18) (
Fin z rg.length [(AV.c (.p (.v (.pointer none))))] r16) (
B1 (W0a a0) fun v19=>
FL 2 v19 r16 fun v21=>
B1 (vbin .sub a1 (I .i64 1)) fun v22=>
B1 (vixs 10 v22 v21) fun v23=>
Fin z rg.length [v23] r16)
theorem S243:SE2 243 k243 s243:=fun _ _ _ _ _ _=>by kernel_rfl
def k246:KT:=(.n (.l [0]) (.n (.n (.l [0,4]) (.n (.n (.l [2]) (.l [])) (.l []))) (.n (.l [2]) (.l []))))
def s246:F1:=fun lp c z a0 rg=>
B2 (xE (.nilq 1 false) [a0] rg) fun v1 r2=>
Cd (W00 v1) (
Fin z rg.length [(AV.c (.p (.v (.slice none 0 0))))] r2) (
B2 (W0x r2 3 0 [(.int .i64 0),(.int .i64 0),(.int .i64 0)] []) fun v3 r4=>
B2 (vapp r4 3 24 v3 a0) fun v5 r6=>
Fin z rg.length [v5] r6)
theorem S246:SE1 246 k246 s246:=fun _ _ _ _ _=>by kernel_rfl
def V3h:KT:=(.n (.n (.l [0,1,2,3,8,9,34]) (.n (.l []) (.l []))) (.n (.l [0,1,2,3,8,9]) (.l [0,1,2,3,8,9])))
def V3i:KT:=(.n (.n (.l [0,1,2,3,8,14]) (.n (.l []) (.l []))) (.n (.n (.l [0,1,2,3,8,9]) V3h) (.l [0,1,2,3,8])))
def k249:KT:=(.n (.l [0,1,2,3,8]) V3i)
def V3j:FB:=fun lp c n0 s=>
B1 (vbin .gtr (s.g 9) (s.g 1)) fun v3=>
B1 (Gv true v3 (some (s.g 3))) fun v4=>
B1 (Gv true v3 (some (s.g 0))) fun v5=>
B1 (Gv true v3 (some (s.g 9))) fun v6=>
B1 (Gv true v3 (vixs 3 v6 v5)) fun v7=>
B1 (Gv true v3 (W01 s.regs 3 true v7)) fun v8=>
B1 (Gv true v3 (some (s.g 0))) fun v9=>
B1 (Gv true v3 (some (s.g 9))) fun v10=>
B1 (Gv true v3 (vbin .sub v10 (I .i64 1))) fun v11=>
B1 (Gv true v3 (vixs 3 v11 v9)) fun v12=>
B1 (Gv true v3 (W01 s.regs 3 true v12)) fun v13=>
B2 (Gr true v3 s.regs (W4f c [v8,v13] s.regs (W2i v4))) fun v14 r15=>
B1 (Gv true v3 (vbin .lss v14 (I .i64 0))) fun v16=>
B1 (W0c v3 v16 (Bo false)) fun v17=>
Cd (W00 v17) (
B1 (vbin .sub (s.g 9) (I .i64 1)) fun v18=>
B1 (vbin .sub (s.g 9) (I .i64 1)) fun v19=>
B1 (vixs 3 v19 (s.g 0)) fun v20=>
B1 (W01 r15 3 true v20) fun v21=>
B1 (vixs 3 (s.g 9) (s.g 0)) fun v22=>
B1 (W01 r15 3 true v22) fun v23=>
B1 (vixs 3 (s.g 9) (s.g 0)) fun v24=>
B0 (W03 r15 3 v24 v21) fun r25=>
B1 (vixs 3 v18 (s.g 0)) fun v26=>
B0 (W03 r25 3 v26 v23) fun r27=>
B1 (vbin .sub (s.g 9) (I .i64 1)) fun v28=>
some (.normal,(⟨[(9,v28),(8,(s.g 8)),(3,(s.g 3)),(2,(s.g 2)),(1,(s.g 1)),(0,(s.g 0))],r27⟩:St))) (
some ((.exit 2),(⟨[(34,v17),(9,(s.g 9)),(8,(s.g 8)),(3,(s.g 3)),(2,(s.g 2)),(1,(s.g 1)),(0,(s.g 0))],r15⟩:St)))
def V3k:FB:=fun lp c n0 s=>
B1 (vbin .lss (s.g 8) (s.g 2)) fun v2=>
Cd (W00 v2) (
B3 (lp (V3j lp c n0) (⟨[(9,(s.g 8)),(8,(s.g 8)),(3,(s.g 3)),(2,(s.g 2)),(1,(s.g 1)),(0,(s.g 0))],s.regs⟩:St)) fun e29 s30=>X3 e29 (
none) (
some (.ret,s30)) (fun i31=>
(bif Nat.beq i31 2 then (
B1 (vbin .add (s30.g 8) (I .i64 1)) fun v33=>
some (.normal,(⟨[(8,v33),(3,(s30.g 3)),(2,(s30.g 2)),(1,(s30.g 1)),(0,(s30.g 0))],s30.regs⟩:St)))else (
(bif Nat.beq i31 1 then (
B1 (vbin .add (s30.g 8) (I .i64 1)) fun v34=>
some (.normal,(⟨[(8,v34),(3,(s30.g 3)),(2,(s30.g 2)),(1,(s30.g 1)),(0,(s30.g 0))],s30.regs⟩:St)))else (
some ((.exit i31),s30))))))) (
some ((.exit 0),(⟨[(14,v2),(8,(s.g 8)),(3,(s.g 3)),(2,(s.g 2)),(1,(s.g 1)),(0,(s.g 0))],s.regs⟩:St)))
def s249:F4:=fun lp c z a0 a1 a2 a3 rg=>
B1 (vbin .add a1 (I .i64 1)) fun v1=>
B3 (lp (V3k lp c rg.length) (⟨[(8,v1),(3,a3),(2,a2),(1,a1),(0,a0)],rg⟩:St)) fun e35 s36=>X3 e35 (
none) (
Fin z rg.length [] s36.regs) (fun i37=>
(bif Nat.beq i37 0 then (
Fin z rg.length [] s36.regs)else (
none)))
theorem S249:SE4 249 k249 s249:=fun _ _ _ _ _ _ _ _=>by kernel_rfl
def k258:KT:=(.n (.l [0,2]) (.n (.n (.l [0,2,4]) (.n (.n (.l [0]) (.l [0,2])) (.l []))) (.n (.n (.l [0,2,8]) (.n (.n (.l [0,2]) (.l [0,2])) (.l []))) (.n (.n (.l [0,2,14]) (.n (.n (.l [0,2]) (.l [0,2])) (.l []))) (.n (.l [2]) (.l []))))))
def s258:F1:=fun lp c z a0 rg=>
Jn (κ:=AV→AV→List Reg→Option (AV×List Reg)) (fun j0_1 j2_1 rj_1=>
Jn (κ:=AV→AV→List Reg→Option (AV×List Reg)) (fun j0_2 j2_2 rj_2=>
Jn (κ:=AV→AV→List Reg→Option (AV×List Reg)) (fun j0_3 j2_3 rj_3=>
B1 (vcvi .u8 j0_3) fun v4=>
B1 (vixt (AV.c (.p (.v (.string ⟨#[0,1,2,2,3,3,3,3,4,4,4,4,4,4,4,4,5,5,5,5,5,5,5,5,5,5,5,5,5,5,5,5,6,6,6,6,6,6,6,6,6,6,6,6,6,6,6,6,6,6,6,6,6,6,6,6,6,6,6,6,6,6,6,6,7,7,7,7,7,7,7,7,7,7,7,7,7,7,7,7,7,7,7,7,7,7,7,7,7,7,7,7,7,7,7,7,7,7,7,7,7,7,7,7,7,7,7,7,7,7,7,7,7,7,7,7,7,7,7,7,7,7,7,7,7,7,7,7,8,8,8,8,8,8,8,8,8,8,8,8,8,8,8,8,8,8,8,8,8,8,8,8,8,8,8,8,8,8,8,8,8,8,8,8,8,8,8,8,8,8,8,8,8,8,8,8,8,8,8,8,8,8,8,8,8,8,8,8,8,8,8,8,8,8,8,8,8,8,8,8,8,8,8,8,8,8,8,8,8,8,8,8,8,8,8,8,8,8,8,8,8,8,8,8,8,8,8,8,8,8,8,8,8,8,8,8,8,8,8,8,8,8,8,8,8,8,8,8,8,8,8,8,8,8,8,8]⟩)))) v4) fun v5=>
B1 (vcvi .i64 v5) fun v6=>
B1 (vbin .add j2_3 v6) fun v7=>
Fin z rg.length [v7] rj_3) fun k_3=>
B1 (vbin .geq j0_2 (I .u64 256)) fun v8=>
Cd (W00 v8) (
B1 (vbin .shr j0_2 (I .u64 8)) fun v9=>
B1 (vbin .add j2_2 (I .i64 8)) fun v10=>
k_3 v9 v10 rj_2) (
k_3 j0_2 j2_2 rj_2)) fun k_2=>
B1 (vbin .geq j0_1 (I .u64 65536)) fun v11=>
Cd (W00 v11) (
B1 (vbin .shr j0_1 (I .u64 16)) fun v12=>
B1 (vbin .add j2_1 (I .i64 16)) fun v13=>
k_2 v12 v13 rj_1) (
k_2 j0_1 j2_1 rj_1)) fun k_1=>
B1 (vbin .geq a0 (I .u64 4294967296)) fun v14=>
Cd (W00 v14) (
B1 (vbin .shr a0 (I .u64 32)) fun v15=>
k_1 v15 (I .i64 32) rg) (
k_1 a0 (I .i64 0) rg)
theorem S258:SE1 258 k258 s258:=fun _ _ _ _ _=>by kernel_rfl
def V3l:KT:=(.n (.n (.l [0,3,4,5,9]) (.n (.l []) (.l []))) (.n (.n (.n (.l [0,3,4,5,21]) (.n (.l []) (.l []))) (.n (.n (.l [0,3,4,5,24]) (.n (.l [0,3,5]) (.l []))) (.l [0,3,4,5]))) (.l [0,3,4,5])))
def k259:KT:=(.n (.l [0]) (.n (.l [0,3]) (.n (.l [0,3,4]) (.n (.n (.l [0,3,4,5]) V3l) (.n (.l [2]) (.l []))))))
def V3m:FB:=fun lp c n0 s=>
B1 (Wko (s.g 0)) fun v1=>
B1 (vbin .leq (s.g 5) v1) fun v2=>
Cd (W00 v2) (
B1 (Wko (s.g 0)) fun v3=>
B1 (vbin .lss (s.g 5) v3) fun v4=>
B1 (Gv true v4 (some (s.g 0))) fun v5=>
B1 (Gv true v4 (some (s.g 5))) fun v6=>
B1 (Gv true v4 (vixt v5 v6)) fun v7=>
B1 (Gv true v4 (vbin .neq v7 (I .u8 32))) fun v8=>
B1 (W0c v4 v8 (Bo false)) fun v9=>
Cd (W00 v9) (
B1 (vbin .add (s.g 5) (I .i64 1)) fun v10=>
some (.normal,(⟨[(5,v10),(4,(s.g 4)),(3,(s.g 3)),(0,(s.g 0))],s.regs⟩:St))) (
Jn (κ:=AV→AV→AV→List Reg→Option (Exit×St)) (fun j0_11 j3_11 j5_11 rj_11=>
B1 (vbin .add j5_11 (I .i64 1)) fun v12=>
B1 (vbin .add j5_11 (I .i64 1)) fun v13=>
some (.normal,(⟨[(5,v13),(4,v12),(3,j3_11),(0,j0_11)],rj_11⟩:St))) fun k_11=>
B1 (vbin .gtr (s.g 5) (s.g 4)) fun v14=>
Cd (W00 v14) (
B2 (xE (.subs true true) [(s.g 0),(s.g 4),(s.g 5)] s.regs) fun v15 r16=>
B2 (W0x r16 1 1 [(.string ⟨#[]⟩)] [(0,v15)]) fun v17 r18=>
B2 (vapp r18 1 16 (s.g 3) v17) fun v19 r20=>
k_11 (s.g 0) v19 (s.g 5) r20) (
k_11 (s.g 0) (s.g 3) (s.g 5) s.regs))) (
some ((.exit 0),(⟨[(9,v2),(5,(s.g 5)),(4,(s.g 4)),(3,(s.g 3)),(0,(s.g 0))],s.regs⟩:St)))
def s259:F1:=fun lp c z a0 rg=>
B3 (lp (V3m lp c rg.length) (⟨[(5,(I .i64 0)),(4,(I .i64 0)),(3,(AV.c (.p (.v (.slice none 0 0))))),(0,a0)],rg⟩:St)) fun e21 s22=>X3 e21 (
none) (
Fin z rg.length [(lk s22.slots 2)] s22.regs) (fun i23=>
(bif Nat.beq i23 0 then (
Fin z rg.length [(s22.g 3)] s22.regs)else (
none)))
theorem S259:SE1 259 k259 s259:=fun _ _ _ _ _=>by kernel_rfl
def k260:KT:=(.n (.l [0,1]) (.n (.l [5]) (.n (.l [5]) (.n (.l [4]) (.l [])))))
def s260:F2:=fun lp c z a0 a1 rg=>
B1 (vbin .mul (I .u64 11400714819323198485) a0) fun v1=>
B1 (vbin .add v1 a1) fun v2=>
B1 (vbin .quo v2 (I .u64 4294967296)) fun v3=>
B1 (vbin .xor v2 v3) fun v4=>
B1 (vbin .mul v4 (I .u64 13787848793156543929)) fun v5=>
B1 (vbin .quo v5 (I .u64 536870912)) fun v6=>
B1 (vbin .xor v5 v6) fun v7=>
Fin z rg.length [v7] rg
theorem S260:SE2 260 k260 s260:=fun _ _ _ _ _ _=>by kernel_rfl
def V3n:KT:=(.n (.n (.l [0,1,5,13]) (.n (.l []) (.l []))) (.n (.l [0,1,5]) (.l [0,1,5])))
def k261:KT:=(.n (.l [0,1]) (.n (.l [0,1]) (.n (.n (.l [0,1,5]) V3n) (.n (.l [4]) (.l [])))))
def Win:FB:=fun lp c n0 s=>
B1 (vlen (s.g 1)) fun v4=>
B1 (vbin .lss (s.g 5) v4) fun v5=>
Cd (W00 v5) (
B1 (vixs 3 (s.g 5) (s.g 1)) fun v6=>
B1 (W01 s.regs 3 true v6) fun v7=>
B2 (c (.fn 263) [(s.g 0),v7] s.regs) fun v8 r9=>
B1 (vbin .add (s.g 5) (I .i64 1)) fun v10=>
some (.normal,(⟨[(5,v10),(1,(s.g 1)),(0,v8)],r9⟩:St))) (
some ((.exit 0),(⟨[(13,v5),(5,(s.g 5)),(1,(s.g 1)),(0,(s.g 0))],s.regs⟩:St)))
def s261:F2:=fun lp c z a0 a1 rg=>
B1 (vlen a1) fun v1=>
B2 (c (.fn 262) [a0,v1] rg) fun v2 r3=>
B3 (lp (Win lp c rg.length) (⟨[(5,(I .i64 0)),(1,a1),(0,v2)],r3⟩:St)) fun e11 s12=>X3 e11 (
none) (
Fin z rg.length [(lk s12.slots 4)] s12.regs) (fun i13=>
(bif Nat.beq i13 0 then (
Fin z rg.length [(s12.g 0)] s12.regs)else (
none)))
theorem S261:SE2 261 k261 s261:=fun _ _ _ _ _ _=>by kernel_rfl
def k262:KT:=(.n (.l [0,1]) (.n (.l [4]) (.l [])))
def s262:F2:=fun lp c z a0 a1 rg=>
B2 (c (.fn 264) [a0,a1] rg) fun v1 r2=>
Fin z rg.length [v1] r2
theorem S262:SE2 262 k262 s262:=fun _ _ _ _ _ _=>by kernel_rfl
def k263:KT:=(.n (.l [0,3]) (.n (.l [0,3]) (.n (.l [0,3]) (.n (.l [4]) (.l [])))))
def s263:F2:=fun lp c z a0 a1 rg=>
B2 (vbox a1 rg) fun v1 r2=>
FL 0 v1 r2 fun v4=>
B2 (c (.fn 264) [a0,v4] r2) fun v5 r6=>
FL 1 v1 r6 fun v8=>
B2 (c (.fn 262) [v5,v8] r6) fun v9 r10=>
FL 2 v1 r10 fun v12=>
B2 (c (.fn 262) [v9,v12] r10) fun v13 r14=>
Fin z rg.length [v13] r14
theorem S263:SE2 263 k263 s263:=fun _ _ _ _ _ _=>by kernel_rfl
def k264:KT:=(.n (.l [0,1]) (.n (.l [4]) (.l [])))
def s264:F2:=fun lp c z a0 a1 rg=>
B2 (c (.fn 325) [a0,a1,(I .i64 8)] rg) fun v1 r2=>
Fin z rg.length [v1] r2
theorem S264:SE2 264 k264 s264:=fun _ _ _ _ _ _=>by kernel_rfl
def V3o:KT:=(.n (.n (.l [0,1,5,13]) (.n (.l []) (.l []))) (.n (.l [0,1,5]) (.l [0,1,5])))
def k265:KT:=(.n (.l [0,1]) (.n (.l [0,1]) (.n (.n (.l [0,1,5]) V3o) (.n (.l [4]) (.l [])))))
def Wio:FB:=fun lp c n0 s=>
B1 (vlen (s.g 1)) fun v4=>
B1 (vbin .lss (s.g 5) v4) fun v5=>
Cd (W00 v5) (
B1 (vixs 1 (s.g 5) (s.g 1)) fun v6=>
L1 s.regs v6 fun v7=>
B2 (c (.fn 264) [(s.g 0),v7] s.regs) fun v8 r9=>
B1 (vbin .add (s.g 5) (I .i64 1)) fun v10=>
some (.normal,(⟨[(5,v10),(1,(s.g 1)),(0,v8)],r9⟩:St))) (
some ((.exit 0),(⟨[(13,v5),(5,(s.g 5)),(1,(s.g 1)),(0,(s.g 0))],s.regs⟩:St)))
def s265:F2:=fun lp c z a0 a1 rg=>
B1 (vlen a1) fun v1=>
B2 (c (.fn 262) [a0,v1] rg) fun v2 r3=>
B3 (lp (Wio lp c rg.length) (⟨[(5,(I .i64 0)),(1,a1),(0,v2)],r3⟩:St)) fun e11 s12=>X3 e11 (
none) (
Fin z rg.length [(lk s12.slots 4)] s12.regs) (fun i13=>
(bif Nat.beq i13 0 then (
Fin z rg.length [(s12.g 0)] s12.regs)else (
none)))
theorem S265:SE2 265 k265 s265:=fun _ _ _ _ _ _=>by kernel_rfl
def k281:KT:=(.n (.l [0,3,4]) (.n (.n (.l [0,3,4,9]) (.n (.n (.l [4,5]) (.l [])) (.l []))) (.n (.l [4,6,7]) (.n (.l [4,5]) (.l [])))))
def s281:F2:=fun lp c z a0 a1 rg=>
B2 (vbox a1 rg) fun v1 r2=>
B2 (W08 [(.int .i64 0),(.int .i64 0),(.int .i64 0)] r2) fun v3 r4=>
B2 (c (.fn 139) [a0] r4) fun v5 r6=>
Cd (W00 v5) (
B1 (W06 [(.int .i64 0),(.int .i64 0),(.int .i64 0)] []) fun v7=>
B0 (W03 r6 3 v3 v7) fun r8=>
Rc z rg.length (cons? (W0q v3 r8 3 true) (cons? (some (Bo false)) (some []))) r8) (
B1 (W0a a0) fun v9=>
B1 (vfad 1 v9) fun v10=>
L1 r6 v10 fun v11=>
B1 (W01 r6 3 true v1) fun v12=>
B2 (xE (.look (true,[.i64,.i64,.i64]) (true,[(.v (.int .i64 0)),(.v (.int .i64 0)),(.v (.int .i64 0))]) true) [v11,v12] r6) fun v13 r14=>
B1 (vext 0 v13) fun v15=>
B1 (vext 1 v13) fun v16=>
B2 (W08 [(.int .i64 0),(.int .i64 0),(.int .i64 0)] r14) fun v17 r18=>
L1 r18 v10 fun v19=>
Sm v19 v11 (
B1 (W01 r18 3 true v1) fun v20=>
Sm v20 v12 (
B2 (xE (.look (true,[.i64,.i64,.i64]) (true,[(.v (.int .i64 0)),(.v (.int .i64 0)),(.v (.int .i64 0))]) true) [v11,v12] r18) fun v21 r22=>
Sm v21 v13 (
B0 (W03 r18 3 v17 v15) fun r23=>
B1 (W01 r23 3 true v17) fun v24=>
B0 (W03 r23 3 v3 v24) fun r25=>
Rc z rg.length (cons? (W0q v3 r25 3 true) (cons? (some v16) (some []))) r25))))
theorem S281:SE2 281 k281 s281:=fun _ _ _ _ _ _=>by kernel_rfl
def V3p:KT:=(.n (.l [5,10,11,12,13]) (.n (.n (.l []) (.l [])) (.n (.n (.l [5,7,10,11,12]) (.l [5,10,11,12])) (.l [5,10,11,12]))))
def k282:KT:=(.n (.l [0,1]) (.n (.l [0,1,5]) (.n (.n (.l [5,10,11,12]) V3p) (.n (.l [4]) (.l [])))))
def Wip:FB:=fun lp c n0 s=>
B1 (vbin .lss (s.g 12) (s.g 11)) fun v4=>
Cd (W00 v4) (
B1 (vixs 3 (s.g 12) (s.g 10)) fun v5=>
B1 (W01 s.regs 3 true v5) fun v6=>
B2 (W08 [(.int .i64 0),(.int .i64 0),(.int .i64 0)] s.regs) fun v7 r8=>
B0 (W03 r8 3 v7 v6) fun r9=>
FL 0 v7 r9 fun v11=>
B2 (W0x r9 1 1 [(.int .i64 0)] [(0,v11)]) fun v12 r13=>
B2 (vapp r13 1 8 (s.g 5) v12) fun v14 r15=>
B1 (vbin .add (s.g 12) (I .i64 1)) fun v16=>
some (.normal,(⟨[(12,v16),(11,(s.g 11)),(10,(s.g 10)),(5,v14)],r15⟩:St))) (
some ((.exit 0),(⟨[(13,v4),(12,(s.g 12)),(11,(s.g 11)),(10,(s.g 10)),(5,(s.g 5))],s.regs⟩:St)))
def s282:F2:=fun lp c z a0 a1 rg=>
B2 (c (.fn 152) [a0,a1] rg) fun v1 r2=>
B1 (vlen v1) fun v3=>
B3 (lp (Wip lp c rg.length) (⟨[(12,(I .i64 0)),(11,v3),(10,v1),(5,(AV.c (.p (.v (.slice none 0 0)))))],r2⟩:St)) fun e17 s18=>X3 e17 (
none) (
Fin z rg.length [(lk s18.slots 4)] s18.regs) (fun i19=>
(bif Nat.beq i19 0 then (
Fin z rg.length [(s18.g 5)] s18.regs)else (
none)))
theorem S282:SE2 282 k282 s282:=fun _ _ _ _ _ _=>by kernel_rfl
def V3q:KT:=(.n (.l [5,13,14,15,16]) (.n (.n (.l []) (.l [])) (.n (.n (.l [5,7,13,14,15]) (.l [5,13,14,15])) (.l [5,13,14,15]))))
def k287:KT:=(.n (.l [0,1]) (.n (.l [1,5]) (.n (.n (.l [5,13,14,15]) V3q) (.n (.l [4]) (.l [])))))
def Wiq:FB:=fun lp c n0 s=>
B1 (vbin .lss (s.g 15) (s.g 14)) fun v6=>
Cd (W00 v6) (
B1 (vixs 1 (s.g 15) (s.g 13)) fun v7=>
L1 s.regs v7 fun v8=>
B1 (vcvi .u64 v8) fun v9=>
B2 (c (.fn 332) [(s.g 5),v9] s.regs) fun v10 r11=>
B1 (vbin .add (s.g 15) (I .i64 1)) fun v12=>
some (.normal,(⟨[(15,v12),(14,(s.g 14)),(13,(s.g 13)),(5,v10)],r11⟩:St))) (
some ((.exit 0),(⟨[(16,v6),(15,(s.g 15)),(14,(s.g 14)),(13,(s.g 13)),(5,(s.g 5))],s.regs⟩:St)))
def s287:F2:=fun lp c z a0 a1 rg=>
B1 (vlen a1) fun v1=>
B1 (vcvi .u64 v1) fun v2=>
B2 (c (.fn 332) [a0,v2] rg) fun v3 r4=>
B1 (vlen a1) fun v5=>
B3 (lp (Wiq lp c rg.length) (⟨[(15,(I .i64 0)),(14,v5),(13,a1),(5,v3)],r4⟩:St)) fun e13 s14=>X3 e13 (
none) (
Fin z rg.length [(lk s14.slots 4)] s14.regs) (fun i15=>
(bif Nat.beq i15 0 then (
Fin z rg.length [(s14.g 5)] s14.regs)else (
none)))
theorem S287:SE2 287 k287 s287:=fun _ _ _ _ _ _=>by kernel_rfl
def k288:KT:=(.n (.l [1,2]) (.l []))
def s288:F3:=fun lp c z a0 a1 a2 rg=>
B1 (vlen a1) fun v1=>
B2 (W0x rg 1 1 [(.int .i64 0)] [(0,v1)]) fun v2 r3=>
B2 (c (.fn 292) [a0,v2] r3) fun v4 r5=>
B2 (W4f c [a1] r5 (W2i a2)) fun v6 r7=>
Fin z rg.length [] r7
theorem S288:SE3 288 k288 s288:=fun _ _ _ _ _ _ _=>by kernel_rfl
def V3r:KT:=(.n (.l [0,6,7,8,9]) (.n (.n (.l []) (.l [])) (.n (.n (.l [0,5,6,7,8]) (.n (.l [0,5,6,7,8]) (.l [0,6,7,8]))) (.l [0,6,7,8]))))
def k289:KT:=(.n (.l [0,6,7,8]) V3r)
def Wir:FB:=fun lp c n0 s=>
B1 (vbin .lss (s.g 8) (s.g 7)) fun v2=>
Cd (W00 v2) (
B1 (vixs 3 (s.g 8) (s.g 6)) fun v3=>
B1 (W01 s.regs 3 true v3) fun v4=>
B2 (W08 [(.int .i64 0),(.int .i64 0),(.int .i64 0)] s.regs) fun v5 r6=>
B0 (W03 r6 3 v5 v4) fun r7=>
FL 0 v5 r7 fun v9=>
B2 (W0x r7 1 1 [(.int .i64 0)] [(0,v9)]) fun v10 r11=>
B2 (c (.fn 294) [(s.g 0),v10] r11) fun v12 r13=>
FL 1 v5 r13 fun v15=>
FL 2 v5 r13 fun v17=>
B2 (W0x r13 1 2 [(.int .i64 0)] [(0,v15),(1,v17)]) fun v18 r19=>
B2 (c (.fn 292) [(s.g 0),v18] r19) fun v20 r21=>
B1 (vbin .add (s.g 8) (I .i64 1)) fun v22=>
some (.normal,(⟨[(8,v22),(7,(s.g 7)),(6,(s.g 6)),(0,(s.g 0))],r21⟩:St))) (
some ((.exit 0),(⟨[(9,v2),(8,(s.g 8)),(7,(s.g 7)),(6,(s.g 6)),(0,(s.g 0))],s.regs⟩:St)))
def s289:F2:=fun lp c z a0 a1 rg=>
B1 (vlen a1) fun v1=>
B3 (lp (Wir lp c rg.length) (⟨[(8,(I .i64 0)),(7,v1),(6,a1),(0,a0)],rg⟩:St)) fun e23 s24=>X3 e23 (
none) (
Fin z rg.length [] s24.regs) (fun i25=>
(bif Nat.beq i25 0 then (
Fin z rg.length [] s24.regs)else (
none)))
theorem S289:SE2 289 k289 s289:=fun _ _ _ _ _ _=>by kernel_rfl
def k290:KT:=(.n (.l [1,2]) (.l []))
def s290:F3:=fun lp c z a0 a1 a2 rg=>
B1 (vlen a1) fun v1=>
B2 (W0x rg 1 1 [(.int .i64 0)] [(0,v1)]) fun v2 r3=>
B2 (c (.fn 292) [a0,v2] r3) fun v4 r5=>
B2 (W4f c [a1] r5 (W2i a2)) fun v6 r7=>
Fin z rg.length [] r7
theorem S290:SE3 290 k290 s290:=fun _ _ _ _ _ _ _=>by kernel_rfl
def V3s:KT:=(.n (.l [1,5,6,7,8]) (.n (.n (.l []) (.l [])) (.n (.n (.n (.l [1,4,5,6,7]) (.l [4])) (.n (.l [1,4,5,6,7]) (.l [1,5,6,7]))) (.l [1,5,6,7]))))
def k291:KT:=(.n (.l [1,5,6,7]) V3s)
def Wis:FB:=fun lp c n0 s=>
B1 (vbin .lss (s.g 7) (s.g 6)) fun v2=>
Cd (W00 v2) (
B1 (vixs 10 (s.g 7) (s.g 5)) fun v3=>
B1 (W01 s.regs 10 true v3) fun v4=>
B2 (W08 [(.int .i64 0),(.int .i64 0),(.int .i64 0),(.int .i64 0),(.int .i64 0),(.int .i64 0),(.int .i64 0),(.int .i64 0),(.int .i64 0),(.int .i64 0)] s.regs) fun v5 r6=>
B0 (W03 r6 10 v5 v4) fun r7=>
LetS (cmpK (.n (.l [1,4,5,6,7]) (.l [4])) n0 (frzS [4] (⟨[(7,(s.g 7)),(6,(s.g 6)),(5,(s.g 5)),(4,v5),(1,(s.g 1))],r7⟩:St))) fun s8=>
L1 s8.regs (s8.g 1) fun v9=>
FL 0 (s8.g 4) s8.regs fun v11=>
FL 1 (s8.g 4) s8.regs fun v13=>
FL 2 (s8.g 4) s8.regs fun v15=>
FL 3 (s8.g 4) s8.regs fun v17=>
B2 (W0x s8.regs 1 4 [(.int .i64 0)] [(0,v11),(1,v13),(2,v15),(3,v17)]) fun v18 r19=>
B2 (c (.fn 292) [v9,v18] r19) fun v20 r21=>
L1 r21 (s8.g 1) fun v22=>
B1 (vfad 4 (s8.g 4)) fun v23=>
B1 (vsla 2 3 v23 none none none) fun v24=>
B2 (c (.fn 289) [v22,v24] r21) fun v25 r26=>
B1 (vbin .add (s8.g 7) (I .i64 1)) fun v27=>
some (.normal,(⟨[(7,v27),(6,(s8.g 6)),(5,(s8.g 5)),(1,(s8.g 1))],r26⟩:St))) (
some ((.exit 0),(⟨[(8,v2),(7,(s.g 7)),(6,(s.g 6)),(5,(s.g 5)),(1,(s.g 1))],s.regs⟩:St)))
def s291:F2:=fun lp c z a0 a1 rg=>
B1 (vlen a0) fun v1=>
B3 (lp (Wis lp c rg.length) (⟨[(7,(I .i64 0)),(6,v1),(5,a0),(1,a1)],rg⟩:St)) fun e28 s29=>X3 e28 (
none) (
Fin z rg.length [] s29.regs) (fun i30=>
(bif Nat.beq i30 0 then (
Fin z rg.length [] s29.regs)else (
none)))
theorem S291:SE2 291 k291 s291:=fun _ _ _ _ _ _=>by kernel_rfl
def V3t:KT:=(.n (.l [0,6,7,8,9]) (.n (.n (.l []) (.l [])) (.n (.n (.l [0,5,6,7,8]) (.l [0,6,7,8])) (.l [0,6,7,8]))))
def k292:KT:=(.n (.l [0,6,7,8]) V3t)
def Wit:FB:=fun lp c n0 s=>
B1 (vbin .lss (s.g 8) (s.g 7)) fun v2=>
Cd (W00 v2) (
B1 (vixs 1 (s.g 8) (s.g 6)) fun v3=>
L1 s.regs v3 fun v4=>
B2 (W0x s.regs 1 1 [(.int .i64 0)] [(0,v4)]) fun v5 r6=>
B2 (c (.fn 294) [(s.g 0),v5] r6) fun v7 r8=>
B1 (vbin .add (s.g 8) (I .i64 1)) fun v9=>
some (.normal,(⟨[(8,v9),(7,(s.g 7)),(6,(s.g 6)),(0,(s.g 0))],r8⟩:St))) (
some ((.exit 0),(⟨[(9,v2),(8,(s.g 8)),(7,(s.g 7)),(6,(s.g 6)),(0,(s.g 0))],s.regs⟩:St)))
def s292:F2:=fun lp c z a0 a1 rg=>
B1 (vlen a1) fun v1=>
B3 (lp (Wit lp c rg.length) (⟨[(8,(I .i64 0)),(7,v1),(6,a1),(0,a0)],rg⟩:St)) fun e10 s11=>X3 e10 (
none) (
Fin z rg.length [] s11.regs) (fun i12=>
(bif Nat.beq i12 0 then (
Fin z rg.length [] s11.regs)else (
none)))
theorem S292:SE2 292 k292 s292:=fun _ _ _ _ _ _=>by kernel_rfl
def k293:KT:=(.n (.l [1,2]) (.l []))
def s293:F3:=fun lp c z a0 a1 a2 rg=>
B1 (vlen a1) fun v1=>
B2 (W0x rg 1 1 [(.int .i64 0)] [(0,v1)]) fun v2 r3=>
B2 (c (.fn 292) [a0,v2] r3) fun v4 r5=>
B2 (W4f c [a1] r5 (W2i a2)) fun v6 r7=>
Fin z rg.length [] r7
theorem S293:SE3 293 k293 s293:=fun _ _ _ _ _ _ _=>by kernel_rfl
def V3u:KT:=(.n (.l [0,6,7,8,9]) (.n (.n (.l []) (.l [])) (.n (.n (.l [0,5,6,7,8]) (.l [0,6,7,8])) (.l [0,6,7,8]))))
def k294:KT:=(.n (.l [0,6,7,8]) V3u)
def Wiu:FB:=fun lp c n0 s=>
B1 (vbin .lss (s.g 8) (s.g 7)) fun v2=>
Cd (W00 v2) (
B1 (vixs 1 (s.g 8) (s.g 6)) fun v3=>
L1 s.regs v3 fun v4=>
B1 (W0a (s.g 0)) fun v5=>
FL 0 v5 s.regs fun v7=>
B2 (c (.fn 333) [v7,v4,(I .i64 8)] s.regs) fun v8 r9=>
B1 (W0a (s.g 0)) fun v10=>
B1 (vfad 0 v10) fun v11=>
B0 (W03 r9 1 v11 v8) fun r12=>
B1 (vbin .add (s.g 8) (I .i64 1)) fun v13=>
some (.normal,(⟨[(8,v13),(7,(s.g 7)),(6,(s.g 6)),(0,(s.g 0))],r12⟩:St))) (
some ((.exit 0),(⟨[(9,v2),(8,(s.g 8)),(7,(s.g 7)),(6,(s.g 6)),(0,(s.g 0))],s.regs⟩:St)))
def s294:F2:=fun lp c z a0 a1 rg=>
B1 (vlen a1) fun v1=>
B3 (lp (Wiu lp c rg.length) (⟨[(8,(I .i64 0)),(7,v1),(6,a1),(0,a0)],rg⟩:St)) fun e14 s15=>X3 e14 (
none) (
Fin z rg.length [] s15.regs) (fun i16=>
(bif Nat.beq i16 0 then (
Fin z rg.length [] s15.regs)else (
none)))
theorem S294:SE2 294 k294 s294:=fun _ _ _ _ _ _=>by kernel_rfl
def k295:KT:=(.n (.l [1,2]) (.l []))
def s295:F3:=fun lp c z a0 a1 a2 rg=>
B1 (vlen a1) fun v1=>
B2 (W0x rg 1 1 [(.int .i64 0)] [(0,v1)]) fun v2 r3=>
B2 (c (.fn 292) [a0,v2] r3) fun v4 r5=>
B2 (W4f c [a1] r5 (W2i a2)) fun v6 r7=>
Fin z rg.length [] r7
theorem S295:SE3 295 k295 s295:=fun _ _ _ _ _ _ _=>by kernel_rfl
def k296:KT:=(.n (.l [1,2]) (.l []))
def s296:F3:=fun lp c z a0 a1 a2 rg=>
B1 (vlen a1) fun v1=>
B2 (W0x rg 1 1 [(.int .i64 0)] [(0,v1)]) fun v2 r3=>
B2 (c (.fn 292) [a0,v2] r3) fun v4 r5=>
B2 (W4f c [a1] r5 (W2i a2)) fun v6 r7=>
Fin z rg.length [] r7
theorem S296:SE3 296 k296 s296:=fun _ _ _ _ _ _ _=>by kernel_rfl
def V3v:KT:=(.n (.l [1,5,6,7,8]) (.n (.n (.l []) (.l [])) (.n (.n (.l [1,4,5,6,7]) (.n (.l [1,4,5,6,7]) (.l [1,5,6,7]))) (.l [1,5,6,7]))))
def k297:KT:=(.n (.l [1,5,6,7]) V3v)
def Wiv:FB:=fun lp c n0 s=>
B1 (vbin .lss (s.g 7) (s.g 6)) fun v2=>
Cd (W00 v2) (
B1 (vixs 3 (s.g 7) (s.g 5)) fun v3=>
B1 (W01 s.regs 3 true v3) fun v4=>
B2 (W08 [(.int .i64 0),(.int .i64 0),(.int .i64 0)] s.regs) fun v5 r6=>
B0 (W03 r6 3 v5 v4) fun r7=>
L1 r7 (s.g 1) fun v8=>
FL 0 v5 r7 fun v10=>
FL 1 v5 r7 fun v12=>
B2 (W0x r7 1 2 [(.int .i64 0)] [(0,v10),(1,v12)]) fun v13 r14=>
B2 (c (.fn 292) [v8,v13] r14) fun v15 r16=>
L1 r16 (s.g 1) fun v17=>
FL 2 v5 r16 fun v19=>
B2 (W0x r16 1 1 [(.int .i64 0)] [(0,v19)]) fun v20 r21=>
B2 (c (.fn 294) [v17,v20] r21) fun v22 r23=>
B1 (vbin .add (s.g 7) (I .i64 1)) fun v24=>
some (.normal,(⟨[(7,v24),(6,(s.g 6)),(5,(s.g 5)),(1,(s.g 1))],r23⟩:St))) (
some ((.exit 0),(⟨[(8,v2),(7,(s.g 7)),(6,(s.g 6)),(5,(s.g 5)),(1,(s.g 1))],s.regs⟩:St)))
def s297:F2:=fun lp c z a0 a1 rg=>
B1 (vlen a0) fun v1=>
B3 (lp (Wiv lp c rg.length) (⟨[(7,(I .i64 0)),(6,v1),(5,a0),(1,a1)],rg⟩:St)) fun e25 s26=>X3 e25 (
none) (
Fin z rg.length [] s26.regs) (fun i27=>
(bif Nat.beq i27 0 then (
Fin z rg.length [] s26.regs)else (
none)))
theorem S297:SE2 297 k297 s297:=fun _ _ _ _ _ _=>by kernel_rfl
def k298:KT:=(.n (.l [1,2]) (.l []))
def s298:F3:=fun lp c z a0 a1 a2 rg=>
B1 (vlen a1) fun v1=>
B2 (W0x rg 1 1 [(.int .i64 0)] [(0,v1)]) fun v2 r3=>
B2 (c (.fn 292) [a0,v2] r3) fun v4 r5=>
B2 (W4f c [a1] r5 (W2i a2)) fun v6 r7=>
Fin z rg.length [] r7
theorem S298:SE3 298 k298 s298:=fun _ _ _ _ _ _ _=>by kernel_rfl
def V3w:KT:=(.n (.l [1,5,6,7,8]) (.n (.n (.l []) (.l [])) (.n (.n (.l [1,4,5,6,7]) (.n (.l [1,4,5,6,7]) (.n (.l [1,4,5,6,7]) (.l [1,5,6,7])))) (.l [1,5,6,7]))))
def k299:KT:=(.n (.l [1,5,6,7]) V3w)
def Wiw:FB:=fun lp c n0 s=>
B1 (vbin .lss (s.g 7) (s.g 6)) fun v2=>
Cd (W00 v2) (
B1 (vixs 8 (s.g 7) (s.g 5)) fun v3=>
B1 (W01 s.regs 8 true v3) fun v4=>
B2 (W08 [(.int .i64 0),(.int .i64 0),(.int .i64 0),(.int .i64 0),(.int .i64 0),(.int .i64 0),(.int .i64 0),(.int .i64 0)] s.regs) fun v5 r6=>
B0 (W03 r6 8 v5 v4) fun r7=>
L1 r7 (s.g 1) fun v8=>
B1 (vfad 0 v5) fun v9=>
FL 0 v9 r7 fun v11=>
B1 (vfad 0 v5) fun v12=>
FL 1 v12 r7 fun v14=>
B1 (vfad 0 v5) fun v15=>
FL 2 v15 r7 fun v17=>
B2 (W0x r7 1 3 [(.int .i64 0)] [(0,v11),(1,v14),(2,v17)]) fun v18 r19=>
B2 (c (.fn 292) [v8,v18] r19) fun v20 r21=>
L1 r21 (s.g 1) fun v22=>
B1 (vfad 3 v5) fun v23=>
B1 (W01 r21 3 true v23) fun v24=>
B2 (W0x r21 3 1 [(.int .i64 0),(.int .i64 0),(.int .i64 0)] [(0,v24)]) fun v25 r26=>
B2 (c (.fn 289) [v22,v25] r26) fun v27 r28=>
L1 r28 (s.g 1) fun v29=>
FL 6 v5 r28 fun v31=>
FL 7 v5 r28 fun v33=>
B2 (W0x r28 1 2 [(.int .i64 0)] [(0,v31),(1,v33)]) fun v34 r35=>
B2 (c (.fn 292) [v29,v34] r35) fun v36 r37=>
B1 (vbin .add (s.g 7) (I .i64 1)) fun v38=>
some (.normal,(⟨[(7,v38),(6,(s.g 6)),(5,(s.g 5)),(1,(s.g 1))],r37⟩:St))) (
some ((.exit 0),(⟨[(8,v2),(7,(s.g 7)),(6,(s.g 6)),(5,(s.g 5)),(1,(s.g 1))],s.regs⟩:St)))
def s299:F2:=fun lp c z a0 a1 rg=>
B1 (vlen a0) fun v1=>
B3 (lp (Wiw lp c rg.length) (⟨[(7,(I .i64 0)),(6,v1),(5,a0),(1,a1)],rg⟩:St)) fun e39 s40=>X3 e39 (
none) (
Fin z rg.length [] s40.regs) (fun i41=>
(bif Nat.beq i41 0 then (
Fin z rg.length [] s40.regs)else (
none)))
theorem S299:SE2 299 k299 s299:=fun _ _ _ _ _ _=>by kernel_rfl
def k302:KT:=(.n (.l [0,2]) (.n (.l [0,2,3]) (.n (.n (.l [0,2,3,10]) (.n (.n (.l [2]) (.l [])) (.l []))) (.n (.l [2]) (.l [])))))
def s302:F1:=fun lp c z a0 rg=>
B2 (W08 [(.string ⟨#[]⟩),(.string ⟨#[]⟩)] rg) fun v1 r2=>
B2 (c (.fn 334) [] r2) fun v3 r4=>
B2 (W08 [(.string ⟨#[]⟩),(.string ⟨#[]⟩),(.string ⟨#[]⟩),(.string ⟨#[]⟩),(.string ⟨#[]⟩),(.string ⟨#[]⟩),(.string ⟨#[]⟩),(.string ⟨#[]⟩),(.string ⟨#[]⟩),(.string ⟨#[]⟩),(.string ⟨#[]⟩),(.string ⟨#[]⟩),(.string ⟨#[]⟩),(.string ⟨#[]⟩),(.string ⟨#[]⟩),(.string ⟨#[]⟩),(.string ⟨#[]⟩),(.string ⟨#[]⟩),(.string ⟨#[]⟩),(.string ⟨#[]⟩),(.string ⟨#[]⟩),(.string ⟨#[]⟩),(.string ⟨#[]⟩),(.string ⟨#[]⟩),(.string ⟨#[]⟩),(.string ⟨#[]⟩),(.string ⟨#[]⟩),(.string ⟨#[]⟩),(.string ⟨#[]⟩),(.string ⟨#[]⟩),(.string ⟨#[]⟩),(.string ⟨#[]⟩),(.string ⟨#[]⟩),(.string ⟨#[]⟩),(.string ⟨#[]⟩),(.string ⟨#[]⟩),(.string ⟨#[]⟩),(.string ⟨#[]⟩),(.string ⟨#[]⟩),(.string ⟨#[]⟩),(.string ⟨#[]⟩),(.string ⟨#[]⟩),(.string ⟨#[]⟩),(.string ⟨#[]⟩),(.string ⟨#[]⟩),(.string ⟨#[]⟩),(.string ⟨#[]⟩),(.string ⟨#[]⟩),(.string ⟨#[]⟩),(.string ⟨#[]⟩),(.string ⟨#[]⟩),(.string ⟨#[]⟩)] r4) fun v5 r6=>
B0 (W03 r6 52 v5 v3) fun r7=>
B1 (vbin .lss a0 (I .i64 0)) fun v8=>
B1 (Gv false v8 (some a0)) fun v9=>
B1 (Gv false v8 (vbin .geq v9 (I .i64 26))) fun v10=>
B1 (W0c v8 (Bo true) v10) fun v11=>
Cd (W00 v11) (
B1 (W06 [(.string ⟨#[]⟩),(.string ⟨#[]⟩)] []) fun v12=>
B0 (W03 r7 2 v1 v12) fun r13=>
Rc z rg.length (cons? (W0q v1 r13 2 true) (some [])) r13) (
B1 (vixa 26 2 a0 v5) fun v14=>
B1 (W01 r7 2 true v14) fun v15=>
B0 (W03 r7 2 v1 v15) fun r16=>
Rc z rg.length (cons? (W0q v1 r16 2 true) (some [])) r16)
theorem S302:SE1 302 k302 s302:=fun _ _ _ _ _=>by kernel_rfl
def k303:KT:=(.n (.l [1,2]) (.n (.n (.l [2,6]) (.l [])) (.n (.l [4]) (.l []))))
def Wpp:ACode:=(.reg [⟨none,(some 5),(.alloc (some 5) [(.int .i64 0),(.int .i64 0),(.int .i64 0)])⟩,⟨none,none,(.store 3 (.t 5) (.t 7))⟩])
def Wpq:ACode:=(.block 1 (.reg [⟨none,(some 8),(.load (some 8) 1 false (.t 2))⟩,⟨none,(some 9),(.load (some 9) 3 true (.t 5))⟩,⟨none,(some 10),(.bsl (some 10) 3 1 [(.int .i64 0),(.int .i64 0),(.int .i64 0)] [(0,(.t 9))])⟩,⟨none,(some 11),(.app (some 11) 3 24 (.t 8) (.t 10))⟩,⟨none,none,(.store 1 (.t 2) (.t 11))⟩]))
def l303_0:LpT:=⟨13,[7],Wpp,Wpq,(.l [2,5]),(.l [])⟩
theorem Wys:trLp Go.Proofs.Tryz.prog 303 0=some (l303_0.N,l303_0.ps,l303_0.as,l303_0.bd):=by kernel_rfl
def s303:F2:=fun lp c z a0 a1 rg=>
B2 (vbox a0 rg) fun v1 r2=>
B3 (evalG Go.Proofs.Tryz.prog lp c false rg.length (.rfun (.t 6) 303 0) (.l []) (⟨[(6,a1),(2,v1)],r2⟩:St)) fun e3 s4=>X3 e3 (
L1 s4.regs (s4.g 2) fun v7=>
Fin z rg.length [v7] s4.regs) (
Fin z rg.length [(lk s4.slots 4)] s4.regs) (fun i5=>
(bif Nat.beq i5 0 then (
L1 s4.regs (s4.g 2) fun v8=>
Fin z rg.length [v8] s4.regs)else (
none)))
theorem S303:SE2 303 k303 s303:=fun _ _ _ _ _ _=>by kernel_rfl
def V3x:KT:=(.n (.l [0,4,6,7,14,15,16]) (.n (.n (.l []) (.l [])) (.n (.n (.l [0,4,5,6,7,14,15]) (.n (.l [0,4,6,7,14,15,34]) (.n (.l []) (.l [])))) (.l [0,4,6,7,14,15]))))
def V3y:KT:=(.n (.l [0,6,7,8]) (.n (.n (.l []) (.l [])) (.n (.n (.l [0,4,6,7]) (.n (.l [0,4,6,7,14,15]) V3x)) (.l [0,6,7]))))
def k304:KT:=(.n (.l [0,6,7]) V3y)
def Wix:FB:=fun lp c n0 s=>
B1 (vbin .lss (s.g 15) (s.g 14)) fun v12=>
Cd (W00 v12) (
FL 0 (s.g 4) s.regs fun v14=>
FL 1 (s.g 4) s.regs fun v16=>
FL 3 (s.g 4) s.regs fun v18=>
B1 (vbin .quo (s.g 15) v18) fun v19=>
B1 (vbin .add v16 v19) fun v20=>
FL 3 (s.g 4) s.regs fun v22=>
B1 (vbin .rem (s.g 15) v22) fun v23=>
B1 (W06 [(.int .i64 0),(.int .i64 0),(.int .i64 0)] [(0,1,v14),(1,1,v20),(2,1,v23)]) fun v24=>
B2 (W4f c [v24] s.regs (W2i (s.g 0))) fun v25 r26=>
B1 (vun .not v25) fun v27=>
Cd (W00 v27) (
some (.ret,(⟨[(34,v27),(15,(s.g 15)),(14,(s.g 14)),(7,(s.g 7)),(6,(s.g 6)),(4,(s.g 4)),(0,(s.g 0))],r26⟩:St))) (
B1 (vbin .add (s.g 15) (I .i64 1)) fun v28=>
some (.normal,(⟨[(15,v28),(14,(s.g 14)),(7,(s.g 7)),(6,(s.g 6)),(4,(s.g 4)),(0,(s.g 0))],r26⟩:St)))) (
some ((.exit 2),(⟨[(16,v12),(15,(s.g 15)),(14,(s.g 14)),(7,(s.g 7)),(6,(s.g 6)),(4,(s.g 4)),(0,(s.g 0))],s.regs⟩:St)))
def Wen:FB:=fun lp c n0 s=>
B1 (vbin .lss (s.g 7) (I .i64 8)) fun v2=>
Cd (W00 v2) (
B1 (vixv 8 4 true (s.g 7) (s.g 6)) fun v3=>
B2 (W08 [(.int .i64 0),(.int .i64 0),(.int .i64 0),(.int .i64 0)] s.regs) fun v4 r5=>
B0 (W03 r5 4 v4 v3) fun r6=>
FL 2 v4 r6 fun v8=>
FL 3 v4 r6 fun v10=>
B1 (vbin .mul v8 v10) fun v11=>
B3 (lp (Wix lp c n0) (⟨[(15,(I .i64 0)),(14,v11),(7,(s.g 7)),(6,(s.g 6)),(4,v4),(0,(s.g 0))],r6⟩:St)) fun e29 s30=>X3 e29 (
none) (
some (.ret,s30)) (fun i31=>
(bif Nat.beq i31 2 then (
B1 (vbin .add (s30.g 7) (I .i64 1)) fun v33=>
some (.normal,(⟨[(7,v33),(6,(s30.g 6)),(0,(s30.g 0))],s30.regs⟩:St)))else (
(bif Nat.beq i31 1 then (
B1 (vbin .add (s30.g 7) (I .i64 1)) fun v34=>
some (.normal,(⟨[(7,v34),(6,(s30.g 6)),(0,(s30.g 0))],s30.regs⟩:St)))else (
some ((.exit i31),s30))))))) (
some ((.exit 0),(⟨[(8,v2),(7,(s.g 7)),(6,(s.g 6)),(0,(s.g 0))],s.regs⟩:St)))
def s304:F2:=fun lp c z a0 a1 rg=>
B1 (W01 rg 32 true a1) fun v1=>
B3 (lp (Wen lp c rg.length) (⟨[(7,(I .i64 0)),(6,v1),(0,a0)],rg⟩:St)) fun e35 s36=>X3 e35 (
none) (
Fin z rg.length [] s36.regs) (fun i37=>
(bif Nat.beq i37 0 then (
Fin z rg.length [] s36.regs)else (
none)))
theorem S304:SE2 304 k304 s304:=fun _ _ _ _ _ _=>by kernel_rfl
def k306:KT:=(.n (.l [0]) (.n (.l [2]) (.l [])))
def s306:F1:=fun lp c z a0 rg=>
B2 (c (.fn 335) [(I .i64 2),a0] rg) fun v1 r2=>
B2 (c (.fn 307) [v1,(I .i64 1)] r2) fun v3 r4=>
Fin z rg.length [v3] r4
theorem S306:SE1 306 k306 s306:=fun _ _ _ _ _=>by kernel_rfl
def k307:KT:=(.n (.l [0,1]) (.n (.l [4]) (.l [])))
def s307:F2:=fun lp c z a0 a1 rg=>
B1 (vbin .add a0 a1) fun v1=>
Fin z rg.length [v1] rg
theorem S307:SE2 307 k307 s307:=fun _ _ _ _ _ _=>by kernel_rfl
def k308:KT:=(.n (.l [2,3,4]) (.n (.l [2,3,4,6]) (.n (.n (.l [2,3,4,6,8]) (.n (.l [2,3,4,6,8,9]) (.n (.n (.l [4,5]) (.l [])) (.n (.n (.l [2,3,4,6,8,20]) (.n (.l []) (.l [2,3,4,6,8,20]))) (.n (.n (.l [4,5]) (.l [])) (.n (.l [2,3,4,6,8,24]) (.n (.l [2,3,4,6]) (.n (.n (.l [2,3,4,6,8,26]) (.n (.l []) (.l [2,3,4,6,26]))) (.n (.l [2,3,4,6]) (.l [])))))))))) (.n (.n (.l [3,4,6,39]) (.n (.n (.l [4,5]) (.l [])) (.l []))) (.n (.l [4,5]) (.l []))))))
def s308:F2:=fun lp c z a0 a1 rg=>
B2 (vbox a0 rg) fun v1 r2=>
B2 (vbox a1 r2) fun v3 r4=>
B2 (W08 [(.int .i64 0),(.int .i64 0),(.int .i64 0)] r4) fun v5 r6=>
Jn (κ:=AV→AV→AV→AV→List Reg→Option (AV×List Reg)) (fun j2_7 j3_7 j4_7 j6_7 rj_7=>
B1 (vbin .eql j6_7 (I .i64 0)) fun v8=>
B1 (Gv false v8 (vfad 1 j3_7)) fun v9=>
B1 (Gv false v8 (W01 rj_7 1 false v9)) fun v10=>
B1 (Gv false v8 (W01 rj_7 4 true j2_7)) fun v11=>
B2 (Gr false v8 rj_7 (c (.fn 314) [v11] rj_7)) fun v12 r13=>
B1 (Gv false v8 (W01 r13 1 false v9)) fun v14=>
Sm v14 v10 (
B1 (Gv false v8 (vbin .sub v12 (I .i64 1))) fun v15=>
B2 (Gr false v8 r13 (c (.fn 71) [v10,(I .i64 0),v15] r13)) fun v16 r17=>
B1 (Gv false v8 (vun .not v16)) fun v18=>
B1 (W0c v8 (Bo true) v18) fun v19=>
Cd (W00 v19) (
B1 (W06 [(.int .i64 0),(.int .i64 0),(.int .i64 0)] []) fun v20=>
B0 (W03 r17 3 j4_7 v20) fun r21=>
Rc z rg.length (cons? (W0q j4_7 r21 3 true) (cons? (some (Bo false)) (some []))) r21) (
FL 1 j3_7 r17 fun v23=>
B1 (W06 [(.int .i64 0),(.int .i64 0),(.int .i64 0)] [(0,1,j6_7),(1,1,v23)]) fun v24=>
B0 (W03 r17 3 j4_7 v24) fun r25=>
Rc z rg.length (cons? (W0q j4_7 r25 3 true) (cons? (some (Bo true)) (some []))) r25))) fun k_7=>
FL 0 v3 r6 fun v27=>
B1 (vbin .eql v27 (I .i64 2)) fun v28=>
Cd (W00 v28) (
B1 (vfad 1 v3) fun v29=>
L1 r6 v29 fun v30=>
B1 (W01 r6 4 true v1) fun v31=>
B1 (vfad 2 v1) fun v32=>
L1 r6 v32 fun v33=>
B2 (c (.fn 314) [v31] r6) fun v34 r35=>
L1 r35 v29 fun v36=>
Sm v36 v30 (
L1 r35 v32 fun v37=>
Sm v37 v33 (
B2 (c (.fn 336) [v30,v34,v33] r35) fun v38 r39=>
B1 (vext 0 v38) fun v40=>
B1 (vext 1 v38) fun v41=>
B0 (W03 r39 3 v5 v40) fun r42=>
Rc z rg.length (cons? (W0q v5 r42 3 true) (cons? (some v41) (some []))) r42))) (
Jn (κ:=AV→AV→AV→AV→AV→AV→List Reg→Option (AV×List Reg)) (fun j2_43 j3_43 j4_43 j6_43 j8_43 j20_43 rj_43=>
Cd (W00 j20_43) (
B1 (W06 [(.int .i64 0),(.int .i64 0),(.int .i64 0)] [(0,1,(I .i64 6))]) fun v44=>
B0 (W03 rj_43 3 j4_43 v44) fun r45=>
Rc z rg.length (cons? (W0q j4_43 r45 3 true) (cons? (some (Bo true)) (some []))) r45) (
B1 (vbin .eql j8_43 (I .i64 5)) fun v46=>
Cd (W00 v46) (
k_7 j2_43 j3_43 j4_43 (I .i64 7) rj_43) (
B1 (vbin .eql j8_43 (I .i64 7)) fun v47=>
Cd (W00 v47) (
Cd (W00 v47) (
k_7 j2_43 j3_43 j4_43 (I .i64 8) rj_43) (
k_7 j2_43 j3_43 j4_43 j6_43 rj_43)) (
B1 (vbin .eql j8_43 (I .i64 8)) fun v48=>
Cd (W00 v48) (
k_7 j2_43 j3_43 j4_43 (I .i64 8) rj_43) (
k_7 j2_43 j3_43 j4_43 j6_43 rj_43))))) fun k_43=>
B1 (vbin .eql v27 (I .i64 4)) fun v49=>
Cd (W00 v49) (
k_43 v1 v3 v5 (I .i64 0) v27 v49 r6) (
B1 (vbin .eql v27 (I .i64 6)) fun v50=>
k_43 v1 v3 v5 (I .i64 0) v27 v50 r6))
theorem S308:SE2 308 k308 s308:=fun _ _ _ _ _ _=>by kernel_rfl
def k309:KT:=(.n (.l [1,2,4]) (.n (.n (.l [1,2,4,7]) (.n (.n (.l [4]) (.l [])) (.l []))) (.n (.l [4]) (.l []))))
def s309:F2:=fun lp c z a0 a1 rg=>
B2 (vbox a0 rg) fun v1 r2=>
B2 (W08 [(.int .i64 0),(.int .i64 0),(.int .i64 0)] r2) fun v3 r4=>
B2 (c (.fn 71) [a1,(I .i64 0),(I .i64 3)] r4) fun v5 r6=>
B1 (vun .not v5) fun v7=>
Cd (W00 v7) (
B1 (W06 [(.int .i64 0),(.int .i64 0),(.int .i64 0)] []) fun v8=>
B0 (W03 r6 3 v3 v8) fun r9=>
Rc z rg.length (cons? (W0q v3 r9 3 true) (some [])) r9) (
B1 (vfad 3 v1) fun v10=>
B1 (vixa 4 3 a1 v10) fun v11=>
B1 (W01 r6 3 true v11) fun v12=>
B0 (W03 r6 3 v3 v12) fun r13=>
Rc z rg.length (cons? (W0q v3 r13 3 true) (some [])) r13)
theorem S309:SE2 309 k309 s309:=fun _ _ _ _ _ _=>by kernel_rfl
def k310:KT:=(.n (.l [1,2,4]) (.n (.n (.l [1,2,4,7]) (.n (.n (.l [4]) (.l [])) (.l []))) (.n (.l [4]) (.l []))))
def s310:F2:=fun lp c z a0 a1 rg=>
B2 (vbox a0 rg) fun v1 r2=>
B2 (W08 [(.int .i64 0),(.int .i64 0),(.int .i64 0)] r2) fun v3 r4=>
B1 (W01 r4 3 true v1) fun v5=>
B2 (c (.fn 194) [v5] r4) fun v6 r7=>
B1 (vun .not v6) fun v8=>
Cd (W00 v8) (
B1 (W06 [(.int .i64 0),(.int .i64 0),(.int .i64 0)] []) fun v9=>
B0 (W03 r7 3 v3 v9) fun r10=>
Rc z rg.length (cons? (W0q v3 r10 3 true) (some [])) r10) (
FL 1 v1 r7 fun v12=>
B2 (W0x r7 1 2 [(.int .i64 0)] [(0,v12),(1,a1)]) fun v13 r14=>
B2 (c (.fn 193) [(I .i64 3),v13] r14) fun v15 r16=>
B0 (W03 r16 3 v3 v15) fun r17=>
Rc z rg.length (cons? (W0q v3 r17 3 true) (some [])) r17)
theorem S310:SE2 310 k310 s310:=fun _ _ _ _ _ _=>by kernel_rfl
def k311:KT:=(.n (.l [0,1,3,6]) (.n (.l [0,1,3,6]) (.l [])))
def s311:F4:=fun lp c z a0 a1 a2 a3 rg=>
B2 (vbox a2 rg) fun v1 r2=>
B1 (W0a a0) fun v3=>
B1 (vfad 0 v3) fun v4=>
B1 (W0a a0) fun v5=>
FL 2 v5 r2 fun v7=>
B1 (vbin .sub a1 (I .i64 1)) fun v8=>
B1 (vixs 10 v8 v7) fun v9=>
B1 (W01 r2 10 true v9) fun v10=>
B1 (W0a a0) fun v11=>
FL 3 v11 r2 fun v13=>
B1 (W06 [(.int .i64 0),(.int .i64 0),(.int .i64 0),(.int .i64 0),(.int .i64 0),(.int .i64 0),(.int .i64 0),(.int .i64 0),(.int .i64 0),(.int .i64 0),(.int .i64 0),(.slice none 0 0)] [(0,1,a1),(1,10,v10),(11,1,v13)]) fun v14=>
B2 (c (.fn 337) [v4,v14] r2) fun v15 r16=>
B1 (W0a a0) fun v17=>
FL 2 v17 r16 fun v19=>
B1 (vbin .sub a1 (I .i64 1)) fun v20=>
B1 (W01 r16 10 true v1) fun v21=>
B1 (vixs 10 v20 v19) fun v22=>
B0 (W03 r16 10 v22 v21) fun r23=>
B1 (W0a a0) fun v24=>
B1 (vfad 3 v24) fun v25=>
B0 (W03 r23 1 v25 a3) fun r26=>
Fin z rg.length [] r26
theorem S311:SE4 311 k311 s311:=fun _ _ _ _ _ _ _ _=>by kernel_rfl
def k313:KT:=(.n (.l [0,1]) (.n (.l [4]) (.l [])))
def s313:F2:=fun lp c z a0 a1 rg=>
B2 (c (.fn 133) [a0,(I .i64 0),(I .i64 4)] rg) fun v1 r2=>
B2 (c (.fn 133) [a1,(I .i64 0),(I .i64 2)] r2) fun v3 r4=>
B1 (vbin .mul v1 v3) fun v5=>
Fin z rg.length [v5] r4
theorem S313:SE2 313 k313 s313:=fun _ _ _ _ _ _=>by kernel_rfl
def k314:KT:=(.n (.l [1]) (.n (.l [2]) (.l [])))
def s314:F1:=fun lp c z a0 rg=>
B2 (vbox a0 rg) fun v1 r2=>
FL 3 v1 r2 fun v4=>
B1 (vlen v4) fun v5=>
B1 (vmm false v5 (I .i64 4)) fun v6=>
Fin z rg.length [v6] r2
theorem S314:SE1 314 k314 s314:=fun _ _ _ _ _=>by kernel_rfl
def k317:KT:=(.n (.l [0]) (.n (.l [2]) (.l [])))
def s317:F1:=fun lp c z a0 rg=>
B2 (c (.fn 302) [a0] rg) fun v1 r2=>
B1 (vfld 0 1 false v1) fun v3=>
Fin z rg.length [v3] r2
theorem S317:SE1 317 k317 s317:=fun _ _ _ _ _=>by kernel_rfl
def V3z:KT:=(.n (.n (.l [1,7,8,22]) (.n (.l []) (.l []))) (.n (.l [1,7,8]) (.l [1,7,8])))
def k325:KT:=(.n (.l [0,1,2]) (.n (.l [0,1,2,7]) (.n (.l [1,2,7]) (.n (.n (.l [1,2,7,17]) (.n (.n (.l [6]) (.l [])) (.l []))) (.n (.n (.l [1,7,8]) V3z) (.n (.l [6]) (.l [])))))))
def Wiy:FB:=fun lp c n0 s=>
B1 (vbin .geq (s.g 8) (I .i64 0)) fun v8=>
Cd (W00 v8) (
B2 (c (.fn 340) [(s.g 1),(s.g 8)] s.regs) fun v9 r10=>
B2 (W0x r10 1 1 [(.int .u8 0)] [(0,v9)]) fun v11 r12=>
B2 (vapp r12 1 1 (s.g 7) v11) fun v13 r14=>
B1 (vbin .sub (s.g 8) (I .i64 1)) fun v15=>
some (.normal,(⟨[(8,v15),(7,v13),(1,(s.g 1))],r14⟩:St))) (
some ((.exit 0),(⟨[(22,v8),(8,(s.g 8)),(7,(s.g 7)),(1,(s.g 1))],s.regs⟩:St)))
def s325:F3:=fun lp c z a0 a1 a2 rg=>
B2 (vapp rg 1 1 (AV.c (.p (.v (.slice none 0 0)))) a0) fun v1 r2=>
B1 (vbin .lss a2 (I .i64 1)) fun v3=>
B1 (Gv false v3 (some a2)) fun v4=>
B1 (Gv false v3 (vbin .gtr v4 (I .i64 8))) fun v5=>
B1 (W0c v3 (Bo true) v5) fun v6=>
Cd (W00 v6) (
Fin z rg.length [v1] r2) (
B1 (vbin .sub a2 (I .i64 1)) fun v7=>
B3 (lp (Wiy lp c rg.length) (⟨[(8,v7),(7,v1),(1,a1)],r2⟩:St)) fun e16 s17=>X3 e16 (
none) (
Fin z rg.length [(lk s17.slots 6)] s17.regs) (fun i18=>
(bif Nat.beq i18 0 then (
Fin z rg.length [(s17.g 7)] s17.regs)else (
none))))
theorem S325:SE3 325 k325 s325:=fun _ _ _ _ _ _ _=>by kernel_rfl
def k332:KT:=(.n (.l [0,1]) (.n (.l [5]) (.n (.l [5]) (.n (.l [4]) (.l [])))))
def s332:F2:=fun lp c z a0 a1 rg=>
B1 (vbin .mul (I .u64 11400714819323198485) a0) fun v1=>
B1 (vbin .add v1 a1) fun v2=>
B1 (vbin .shr v2 (I .u64 32)) fun v3=>
B1 (vbin .xor v2 v3) fun v4=>
B1 (vbin .mul v4 (I .u64 13787848793156543929)) fun v5=>
B1 (vbin .shr v5 (I .u64 29)) fun v6=>
B1 (vbin .xor v5 v6) fun v7=>
Fin z rg.length [v7] rg
theorem S332:SE2 332 k332 s332:=fun _ _ _ _ _ _=>by kernel_rfl
def V40:KT:=(.n (.l [0,2,7,8,19,20,21]) (.n (.n (.l []) (.l [])) (.n (.n (.l [0,2,7,8,9,19,20]) (.n (.l [0,2,7,8,19,20]) (.l [0,2,7,8,19,20]))) (.l [0,2,7,8,19,20]))))
def k333:KT:=(.n (.l [0,1,2]) (.n (.n (.l [0,1,2,15]) (.n (.n (.l [6]) (.l [])) (.l []))) (.n (.l [0,1,2,7]) (.n (.l [0,2,7,8]) (.n (.n (.l [0,2,7,8,19,20]) V40) (.n (.l [6]) (.l [])))))))
def W4l:FB:=fun lp c n0 s=>
B1 (vbin .lss (s.g 20) (s.g 19)) fun v8=>
Cd (W00 v8) (
B1 (vbin .sub (s.g 2) (I .i64 1)) fun v9=>
B1 (vbin .sub v9 (s.g 20)) fun v10=>
B1 (vcvi .u8 (s.g 8)) fun v11=>
B1 (vixa 8 1 v10 (s.g 7)) fun v12=>
B0 (W03 s.regs 1 v12 v11) fun r13=>
B1 (vbin .shr (s.g 8) (I .u64 8)) fun v14=>
B1 (vbin .add (s.g 20) (I .i64 1)) fun v15=>
some (.normal,(⟨[(20,v15),(19,(s.g 19)),(8,v14),(7,(s.g 7)),(2,(s.g 2)),(0,(s.g 0))],r13⟩:St))) (
some ((.exit 0),(⟨[(21,v8),(20,(s.g 20)),(19,(s.g 19)),(8,(s.g 8)),(7,(s.g 7)),(2,(s.g 2)),(0,(s.g 0))],s.regs⟩:St)))
def s333:F3:=fun lp c z a0 a1 a2 rg=>
B1 (vbin .lss a2 (I .i64 1)) fun v1=>
B1 (Gv false v1 (some a2)) fun v2=>
B1 (Gv false v1 (vbin .gtr v2 (I .i64 8))) fun v3=>
B1 (W0c v1 (Bo true) v3) fun v4=>
Cd (W00 v4) (
Fin z rg.length [a0] rg) (
B2 (Wc5 1 8 [(.int .u8 0)] rg) fun v5 r6=>
B1 (vcvi .u64 a1) fun v7=>
B3 (lp (W4l lp c rg.length) (⟨[(20,(I .i64 0)),(19,a2),(8,v7),(7,v5),(2,a2),(0,a0)],r6⟩:St)) fun e16 s17=>X3 e16 (
none) (
Fin z rg.length [(lk s17.slots 6)] s17.regs) (fun i18=>
(bif Nat.beq i18 0 then (
B1 (vlen (s17.g 0)) fun v20=>
B1 (vlen (s17.g 0)) fun v21=>
B1 (vsls 1 (s17.g 0) none (some v20) (some v21)) fun v22=>
B1 (vsla 8 1 (s17.g 7) none (some (s17.g 2)) none) fun v23=>
B2 (vapp s17.regs 1 1 v22 v23) fun v24 r25=>
Fin z rg.length [v24] r25)else (
none))))
theorem S333:SE3 333 k333 s333:=fun _ _ _ _ _ _ _=>by kernel_rfl
def k334:KT:=(.n (.l [0]) (.n (.l [0]) (.l [])))
def k335:KT:=(.n (.l [0,1]) (.n (.l [4]) (.l [])))
def s335:F2:=fun lp c z a0 a1 rg=>
B1 (vbin .mul a0 a1) fun v1=>
Fin z rg.length [v1] rg
theorem S335:SE2 335 k335 s335:=fun _ _ _ _ _ _=>by kernel_rfl
def k336:KT:=(.n (.l [0,1,2,6]) (.n (.n (.l [0,2,6,15]) (.n (.n (.l [6,7]) (.l [])) (.l []))) (.n (.l [0,6,8]) (.n (.l [6,7]) (.l [])))))
def s336:F3:=fun lp c z a0 a1 a2 rg=>
B2 (W08 [(.int .i64 0),(.int .i64 0),(.int .i64 0)] rg) fun v1 r2=>
B2 (c (.fn 313) [a1,a2] r2) fun v3 r4=>
B1 (vbin .sub v3 (I .i64 1)) fun v5=>
B2 (c (.fn 71) [a0,(I .i64 0),v5] r4) fun v6 r7=>
B1 (vun .not v6) fun v8=>
Cd (W00 v8) (
B1 (W06 [(.int .i64 0),(.int .i64 0),(.int .i64 0)] []) fun v9=>
B0 (W03 r7 3 v1 v9) fun r10=>
Rc z rg.length (cons? (W0q v1 r10 3 true) (cons? (some (Bo false)) (some []))) r10) (
B2 (c (.fn 133) [a2,(I .i64 0),(I .i64 2)] r7) fun v11 r12=>
B1 (vbin .quo a0 v11) fun v13=>
B1 (vbin .rem a0 v11) fun v14=>
B1 (W06 [(.int .i64 0),(.int .i64 0),(.int .i64 0)] [(0,1,(I .i64 5)),(1,1,v13),(2,1,v14)]) fun v15=>
B0 (W03 r12 3 v1 v15) fun r16=>
Rc z rg.length (cons? (W0q v1 r16 3 true) (cons? (some (Bo true)) (some []))) r16)
theorem S336:SE3 336 k336 s336:=fun _ _ _ _ _ _ _=>by kernel_rfl
def k337:KT:=(.n (.l [0,3]) (.l []))
def s337:F2:=fun lp c z a0 a1 rg=>
B2 (vbox a1 rg) fun v1 r2=>
B1 (W0a a0) fun v3=>
B1 (vfad 0 v3) fun v4=>
L1 r2 v4 fun v5=>
B1 (W01 r2 12 true v1) fun v6=>
B2 (W0x r2 12 1 [(.int .i64 0),(.int .i64 0),(.int .i64 0),(.int .i64 0),(.int .i64 0),(.int .i64 0),(.int .i64 0),(.int .i64 0),(.int .i64 0),(.int .i64 0),(.int .i64 0),(.slice none 0 0)] [(0,v6)]) fun v7 r8=>
L1 r8 v4 fun v9=>
Sm v9 v5 (
B2 (vapp r8 12 112 v5 v7) fun v10 r11=>
B1 (W0a a0) fun v12=>
B1 (vfad 0 v12) fun v13=>
B0 (W03 r11 1 v13 v10) fun r14=>
Fin z rg.length [] r14)
theorem S337:SE2 337 k337 s337:=fun _ _ _ _ _ _=>by kernel_rfl
def k340:KT:=(.n (.l [0,1]) (.n (.l [4]) (.l [])))
def s340:F2:=fun lp c z a0 a1 rg=>
B1 (vcvi .u64 a0) fun v1=>
B1 (vbin .mul (I .i64 8) a1) fun v2=>
B1 (vbin .shr v1 v2) fun v3=>
B1 (vbin .and v3 (I .u64 255)) fun v4=>
B1 (vcvi .u8 v4) fun v5=>
Fin z rg.length [v5] rg
theorem S340:SE2 340 k340 s340:=fun _ _ _ _ _ _=>by kernel_rfl
end
noncomputable section
set_option maxRecDepth 100000
def tl0:List (Nat×KT):=[(7,k7),(15,k15),(16,k16),(18,k18),(21,k21),(22,k22),(24,k24),(25,k25),(26,k26),(35,k35),(36,k36),(37,k37),(38,k38),(39,k39),(40,k40),(43,k43),(52,k52),(53,k53),(57,k57),(58,k58)]
theorem tc0:tl0.all (fun p=>(trF PG p.1).isSome)=true:=by kernel_rfl
def tl1:List (Nat×KT):=[(59,k59),(60,k60),(61,k61),(62,k62),(63,k63),(64,k64),(65,k65),(66,k66),(68,k68),(69,k69),(70,k70),(71,k71),(72,k72),(73,k73),(74,k74),(75,k75),(76,k76),(77,k77),(78,k78),(79,k79)]
theorem tc1:tl1.all (fun p=>(trF PG p.1).isSome)=true:=by kernel_rfl
def tl2:List (Nat×KT):=[(81,k81),(82,k82),(83,k83),(88,k88),(90,k90),(91,k91),(92,k92),(93,k93),(94,k94),(95,k95),(96,k96),(97,k97),(98,k98),(99,k99),(100,k100),(101,k101),(102,k102),(103,k103),(104,k104),(105,k105)]
theorem tc2:tl2.all (fun p=>(trF PG p.1).isSome)=true:=by kernel_rfl
def tl3:List (Nat×KT):=[(110,k110),(111,k111),(112,k112),(123,k123),(128,k128),(129,k129),(130,k130),(131,k131),(132,k132),(133,k133),(134,k134),(135,k135),(136,k136),(137,k137),(138,k138),(139,k139),(140,k140),(142,k142),(143,k143),(144,k144)]
theorem tc3:tl3.all (fun p=>(trF PG p.1).isSome)=true:=by kernel_rfl
def tl4:List (Nat×KT):=[(145,k145),(146,k146),(148,k148),(152,k152),(153,k153),(157,k157),(158,k158),(159,k159),(160,k160),(161,k161),(162,k162),(163,k163),(164,k164),(165,k165),(166,k166),(167,k167),(168,k168),(186,k186),(187,k187),(188,k188)]
theorem tc4:tl4.all (fun p=>(trF PG p.1).isSome)=true:=by kernel_rfl
def tl5:List (Nat×KT):=[(189,k189),(190,k190),(191,k191),(192,k192),(193,k193),(194,k194),(207,k207),(209,k209),(210,k210),(211,k211),(212,k212),(217,k217),(218,k218),(219,k219),(220,k220),(221,k221),(222,k222),(223,k223),(224,k224),(225,k225)]
theorem tc5:tl5.all (fun p=>(trF PG p.1).isSome)=true:=by kernel_rfl
def tl6:List (Nat×KT):=[(226,k226),(231,k231),(233,k233),(235,k235),(238,k238),(239,k239),(243,k243),(246,k246),(249,k249),(258,k258),(259,k259),(260,k260),(261,k261),(262,k262),(263,k263),(264,k264),(265,k265),(281,k281),(282,k282),(287,k287)]
theorem tc6:tl6.all (fun p=>(trF PG p.1).isSome)=true:=by kernel_rfl
def tl7:List (Nat×KT):=[(288,k288),(289,k289),(290,k290),(291,k291),(292,k292),(293,k293),(294,k294),(295,k295),(296,k296),(297,k297),(298,k298),(299,k299),(302,k302),(303,k303),(304,k304),(306,k306),(307,k307),(308,k308),(309,k309),(310,k310)]
theorem tc7:tl7.all (fun p=>(trF PG p.1).isSome)=true:=by kernel_rfl
def tl8:List (Nat×KT):=[(311,k311),(313,k313),(314,k314),(317,k317),(325,k325),(332,k332),(333,k333),(334,k334),(335,k335),(336,k336),(337,k337),(340,k340)]
theorem tc8:tl8.all (fun p=>(trF PG p.1).isSome)=true:=by kernel_rfl
def tabL:List (Nat×KT):=tl0++(tl1++(tl2++(tl3++(tl4++(tl5++(tl6++(tl7++(tl8))))))))
def tab:List (Option (FnT×KT)):=tabM PG tabL 0 341
theorem Wiz:TabOk Go.Proofs.Tryz.prog 0 tab:=Wg7 (fun p hp=>by
 unfold tabL at hp
 simp only[Zg]at hp
 rcases hp with h | h | h | h | h | h | h | h | h
 ·exact Za.1 tc0 p h
 ·exact Za.1 tc1 p h
 ·exact Za.1 tc2 p h
 ·exact Za.1 tc3 p h
 ·exact Za.1 tc4 p h
 ·exact Za.1 tc5 p h
 ·exact Za.1 tc6 p h
 ·exact Za.1 tc7 p h
 ·exact Za.1 tc8 p h
) _ _
def shL:List (Nat×ShF):=[(15,un0 s15),(18,un2 s18),(22,un1 s22),(24,un2 s24),(25,un2 s25),(26,un1 s26),(53,un1 s53),(57,un0 s57),(58,un1 s58),(59,un1 s59),(60,un1 s60),(61,un1 s61),(62,un1 s62),(63,un1 s63),(64,un1 s64),(65,un1 s65),(66,un2 s66),(68,un1 s68),(69,un2 s69),(70,un1 s70),(71,un3 s71),(72,un2 s72),(73,un1 s73),(74,un1 s74),(75,un1 s75),(76,un1 s76),(77,un1 s77),(78,un1 s78),(79,un2 s79),(81,un2 s81),(82,un1 s82),(83,un1 s83),(88,un2 s88),(90,un1 s90),(111,un1 s111),(112,un1 s112),(128,un2 s128),(129,un1 s129),(130,un3 s130),(131,un1 s131),(132,un1 s132),(133,un3 s133),(134,un1 s134),(135,un1 s135),(136,un4 s136),(137,un4 s137),(139,un1 s139),(140,un2 s140),(142,un6 s142),(143,un1 s143),(145,un2 s145),(146,un2 s146),(148,un2 s148),(152,un2 s152),(153,un1 s153),(157,un5 s157),(158,un1 s158),(191,un1 s191),(192,un1 s192),(193,un2 s193),(194,un1 s194),(207,un1 s207),(217,un2 s217),(218,un1 s218),(219,un4 s219),(220,un1 s220),(221,un1 s221),(222,un3 s222),(223,un2 s223),(224,un3 s224),(225,un1 s225),(226,un4 s226),(231,un2 s231),(233,un2 s233),(235,un3 s235),(238,un1 s238),(239,un3 s239),(243,un2 s243),(246,un1 s246),(249,un4 s249),(258,un1 s258),(259,un1 s259),(281,un2 s281),(302,un1 s302),(303,un2 s303),(304,un2 s304),(306,un1 s306),(307,un2 s307),(308,un2 s308),(309,un2 s309),(310,un2 s310),(311,un4 s311),(313,un2 s313),(314,un1 s314),(317,un1 s317),(335,un2 s335),(336,un3 s336),(337,un2 s337)]
def shF(f:Nat):Option ShF:=lkS shL f
theorem shL_ok:AllS tab Go.Proofs.Tryz.prog shL:=⟨sh0 (t:=tOf PG 15) (kt:=k15) (by kernel_rfl) (by kernel_rfl) S15,⟨sh2 (t:=tOf PG 18) (kt:=k18) (by kernel_rfl) (by kernel_rfl) S18,⟨sh1 (t:=tOf PG 22) (kt:=k22) (by kernel_rfl) (by kernel_rfl) S22,⟨sh2 (t:=tOf PG 24) (kt:=k24) (by kernel_rfl) (by kernel_rfl) S24,⟨sh2 (t:=tOf PG 25) (kt:=k25) (by kernel_rfl) (by kernel_rfl) S25,⟨sh1 (t:=tOf PG 26) (kt:=k26) (by kernel_rfl) (by kernel_rfl) S26,⟨sh1 (t:=tOf PG 53) (kt:=k53) (by kernel_rfl) (by kernel_rfl) S53,⟨sh0 (t:=tOf PG 57) (kt:=k57) (by kernel_rfl) (by kernel_rfl) S57,⟨sh1 (t:=tOf PG 58) (kt:=k58) (by kernel_rfl) (by kernel_rfl) S58,⟨sh1 (t:=tOf PG 59) (kt:=k59) (by kernel_rfl) (by kernel_rfl) S59,⟨sh1 (t:=tOf PG 60) (kt:=k60) (by kernel_rfl) (by kernel_rfl) S60,⟨sh1 (t:=tOf PG 61) (kt:=k61) (by kernel_rfl) (by kernel_rfl) S61,⟨sh1 (t:=tOf PG 62) (kt:=k62) (by kernel_rfl) (by kernel_rfl) S62,⟨sh1 (t:=tOf PG 63) (kt:=k63) (by kernel_rfl) (by kernel_rfl) S63,⟨sh1 (t:=tOf PG 64) (kt:=k64) (by kernel_rfl) (by kernel_rfl) S64,⟨sh1 (t:=tOf PG 65) (kt:=k65) (by kernel_rfl) (by kernel_rfl) S65,⟨sh2 (t:=tOf PG 66) (kt:=k66) (by kernel_rfl) (by kernel_rfl) S66,⟨sh1 (t:=tOf PG 68) (kt:=k68) (by kernel_rfl) (by kernel_rfl) S68,⟨sh2 (t:=tOf PG 69) (kt:=k69) (by kernel_rfl) (by kernel_rfl) S69,⟨sh1 (t:=tOf PG 70) (kt:=k70) (by kernel_rfl) (by kernel_rfl) S70,⟨sh3 (t:=tOf PG 71) (kt:=k71) (by kernel_rfl) (by kernel_rfl) S71,⟨sh2 (t:=tOf PG 72) (kt:=k72) (by kernel_rfl) (by kernel_rfl) S72,⟨sh1 (t:=tOf PG 73) (kt:=k73) (by kernel_rfl) (by kernel_rfl) S73,⟨sh1 (t:=tOf PG 74) (kt:=k74) (by kernel_rfl) (by kernel_rfl) S74,⟨sh1 (t:=tOf PG 75) (kt:=k75) (by kernel_rfl) (by kernel_rfl) S75,⟨sh1 (t:=tOf PG 76) (kt:=k76) (by kernel_rfl) (by kernel_rfl) S76,⟨sh1 (t:=tOf PG 77) (kt:=k77) (by kernel_rfl) (by kernel_rfl) S77,⟨sh1 (t:=tOf PG 78) (kt:=k78) (by kernel_rfl) (by kernel_rfl) S78,⟨sh2 (t:=tOf PG 79) (kt:=k79) (by kernel_rfl) (by kernel_rfl) S79,⟨sh2 (t:=tOf PG 81) (kt:=k81) (by kernel_rfl) (by kernel_rfl) S81,⟨sh1 (t:=tOf PG 82) (kt:=k82) (by kernel_rfl) (by kernel_rfl) S82,⟨sh1 (t:=tOf PG 83) (kt:=k83) (by kernel_rfl) (by kernel_rfl) S83,⟨sh2 (t:=tOf PG 88) (kt:=k88) (by kernel_rfl) (by kernel_rfl) S88,⟨sh1 (t:=tOf PG 90) (kt:=k90) (by kernel_rfl) (by kernel_rfl) S90,⟨sh1 (t:=tOf PG 111) (kt:=k111) (by kernel_rfl) (by kernel_rfl) S111,⟨sh1 (t:=tOf PG 112) (kt:=k112) (by kernel_rfl) (by kernel_rfl) S112,⟨sh2 (t:=tOf PG 128) (kt:=k128) (by kernel_rfl) (by kernel_rfl) S128,⟨sh1 (t:=tOf PG 129) (kt:=k129) (by kernel_rfl) (by kernel_rfl) S129,⟨sh3 (t:=tOf PG 130) (kt:=k130) (by kernel_rfl) (by kernel_rfl) S130,⟨sh1 (t:=tOf PG 131) (kt:=k131) (by kernel_rfl) (by kernel_rfl) S131,⟨sh1 (t:=tOf PG 132) (kt:=k132) (by kernel_rfl) (by kernel_rfl) S132,⟨sh3 (t:=tOf PG 133) (kt:=k133) (by kernel_rfl) (by kernel_rfl) S133,⟨sh1 (t:=tOf PG 134) (kt:=k134) (by kernel_rfl) (by kernel_rfl) S134,⟨sh1 (t:=tOf PG 135) (kt:=k135) (by kernel_rfl) (by kernel_rfl) S135,⟨sh4 (t:=tOf PG 136) (kt:=k136) (by kernel_rfl) (by kernel_rfl) S136,⟨sh4 (t:=tOf PG 137) (kt:=k137) (by kernel_rfl) (by kernel_rfl) S137,⟨sh1 (t:=tOf PG 139) (kt:=k139) (by kernel_rfl) (by kernel_rfl) S139,⟨sh2 (t:=tOf PG 140) (kt:=k140) (by kernel_rfl) (by kernel_rfl) S140,⟨sh6 (t:=tOf PG 142) (kt:=k142) (by kernel_rfl) (by kernel_rfl) S142,⟨sh1 (t:=tOf PG 143) (kt:=k143) (by kernel_rfl) (by kernel_rfl) S143,⟨sh2 (t:=tOf PG 145) (kt:=k145) (by kernel_rfl) (by kernel_rfl) S145,⟨sh2 (t:=tOf PG 146) (kt:=k146) (by kernel_rfl) (by kernel_rfl) S146,⟨sh2 (t:=tOf PG 148) (kt:=k148) (by kernel_rfl) (by kernel_rfl) S148,⟨sh2 (t:=tOf PG 152) (kt:=k152) (by kernel_rfl) (by kernel_rfl) S152,⟨sh1 (t:=tOf PG 153) (kt:=k153) (by kernel_rfl) (by kernel_rfl) S153,⟨sh5 (t:=tOf PG 157) (kt:=k157) (by kernel_rfl) (by kernel_rfl) S157,⟨sh1 (t:=tOf PG 158) (kt:=k158) (by kernel_rfl) (by kernel_rfl) S158,⟨sh1 (t:=tOf PG 191) (kt:=k191) (by kernel_rfl) (by kernel_rfl) S191,⟨sh1 (t:=tOf PG 192) (kt:=k192) (by kernel_rfl) (by kernel_rfl) S192,⟨sh2 (t:=tOf PG 193) (kt:=k193) (by kernel_rfl) (by kernel_rfl) S193,⟨sh1 (t:=tOf PG 194) (kt:=k194) (by kernel_rfl) (by kernel_rfl) S194,⟨sh1 (t:=tOf PG 207) (kt:=k207) (by kernel_rfl) (by kernel_rfl) S207,⟨sh2 (t:=tOf PG 217) (kt:=k217) (by kernel_rfl) (by kernel_rfl) S217,⟨sh1 (t:=tOf PG 218) (kt:=k218) (by kernel_rfl) (by kernel_rfl) S218,⟨sh4 (t:=tOf PG 219) (kt:=k219) (by kernel_rfl) (by kernel_rfl) S219,⟨sh1 (t:=tOf PG 220) (kt:=k220) (by kernel_rfl) (by kernel_rfl) S220,⟨sh1 (t:=tOf PG 221) (kt:=k221) (by kernel_rfl) (by kernel_rfl) S221,⟨sh3 (t:=tOf PG 222) (kt:=k222) (by kernel_rfl) (by kernel_rfl) S222,⟨sh2 (t:=tOf PG 223) (kt:=k223) (by kernel_rfl) (by kernel_rfl) S223,⟨sh3 (t:=tOf PG 224) (kt:=k224) (by kernel_rfl) (by kernel_rfl) S224,⟨sh1 (t:=tOf PG 225) (kt:=k225) (by kernel_rfl) (by kernel_rfl) S225,⟨sh4 (t:=tOf PG 226) (kt:=k226) (by kernel_rfl) (by kernel_rfl) S226,⟨sh2 (t:=tOf PG 231) (kt:=k231) (by kernel_rfl) (by kernel_rfl) S231,⟨sh2 (t:=tOf PG 233) (kt:=k233) (by kernel_rfl) (by kernel_rfl) S233,⟨sh3 (t:=tOf PG 235) (kt:=k235) (by kernel_rfl) (by kernel_rfl) S235,⟨sh1 (t:=tOf PG 238) (kt:=k238) (by kernel_rfl) (by kernel_rfl) S238,⟨sh3 (t:=tOf PG 239) (kt:=k239) (by kernel_rfl) (by kernel_rfl) S239,⟨sh2 (t:=tOf PG 243) (kt:=k243) (by kernel_rfl) (by kernel_rfl) S243,⟨sh1 (t:=tOf PG 246) (kt:=k246) (by kernel_rfl) (by kernel_rfl) S246,⟨sh4 (t:=tOf PG 249) (kt:=k249) (by kernel_rfl) (by kernel_rfl) S249,⟨sh1 (t:=tOf PG 258) (kt:=k258) (by kernel_rfl) (by kernel_rfl) S258,⟨sh1 (t:=tOf PG 259) (kt:=k259) (by kernel_rfl) (by kernel_rfl) S259,⟨sh2 (t:=tOf PG 281) (kt:=k281) (by kernel_rfl) (by kernel_rfl) S281,⟨sh1 (t:=tOf PG 302) (kt:=k302) (by kernel_rfl) (by kernel_rfl) S302,⟨sh2 (t:=tOf PG 303) (kt:=k303) (by kernel_rfl) (by kernel_rfl) S303,⟨sh2 (t:=tOf PG 304) (kt:=k304) (by kernel_rfl) (by kernel_rfl) S304,⟨sh1 (t:=tOf PG 306) (kt:=k306) (by kernel_rfl) (by kernel_rfl) S306,⟨sh2 (t:=tOf PG 307) (kt:=k307) (by kernel_rfl) (by kernel_rfl) S307,⟨sh2 (t:=tOf PG 308) (kt:=k308) (by kernel_rfl) (by kernel_rfl) S308,⟨sh2 (t:=tOf PG 309) (kt:=k309) (by kernel_rfl) (by kernel_rfl) S309,⟨sh2 (t:=tOf PG 310) (kt:=k310) (by kernel_rfl) (by kernel_rfl) S310,⟨sh4 (t:=tOf PG 311) (kt:=k311) (by kernel_rfl) (by kernel_rfl) S311,⟨sh2 (t:=tOf PG 313) (kt:=k313) (by kernel_rfl) (by kernel_rfl) S313,⟨sh1 (t:=tOf PG 314) (kt:=k314) (by kernel_rfl) (by kernel_rfl) S314,⟨sh1 (t:=tOf PG 317) (kt:=k317) (by kernel_rfl) (by kernel_rfl) S317,⟨sh2 (t:=tOf PG 335) (kt:=k335) (by kernel_rfl) (by kernel_rfl) S335,⟨sh3 (t:=tOf PG 336) (kt:=k336) (by kernel_rfl) (by kernel_rfl) S336,⟨sh2 (t:=tOf PG 337) (kt:=k337) (by kernel_rfl) (by kernel_rfl) S337,trivial⟩⟩⟩⟩⟩⟩⟩⟩⟩⟩⟩⟩⟩⟩⟩⟩⟩⟩⟩⟩⟩⟩⟩⟩⟩⟩⟩⟩⟩⟩⟩⟩⟩⟩⟩⟩⟩⟩⟩⟩⟩⟩⟩⟩⟩⟩⟩⟩⟩⟩⟩⟩⟩⟩⟩⟩⟩⟩⟩⟩⟩⟩⟩⟩⟩⟩⟩⟩⟩⟩⟩⟩⟩⟩⟩⟩⟩⟩⟩⟩⟩⟩⟩⟩⟩⟩⟩⟩⟩⟩⟩⟩⟩⟩⟩⟩⟩⟩
theorem Wpr(f:Nat)(F:ShF)(e:shF f=some F):ShOk tab Go.Proofs.Tryz.prog f F:=shL_ok.get f F e
def lps:Nat→Nat→Option LpT
 | 303,0=>some l303_0
 | _,_=>none
theorem Wj0:∀f j q,lps f j=some q→trLp Go.Proofs.Tryz.prog f j=some (q.N,q.ps,q.as,q.bd):=by
 intro f j q h
 unfold lps at h
 split at h
 ·cases h; exact Wys
 ·cases h
end
end Go.Proofs.YtahoelmjfgoedaaGreat.T
namespace Go.Sim
open Go.RowKit
abbrev iv(n:Int):PV:= .v (.int .i64 n)
abbrev ag(l:List PV):AV:= .agg (l.map .p)
abbrev nilS:PV:= .v (.slice none 0 0)
abbrev nilp:AV:= .c (.p (.v (.pointer none)))
@[ext] structure Tri where
 a:Int
 b:Int
 c:Int
 deriving DecidableEq
@[ext] structure Ent where
 p:Tri
 w:Tri
 gen:Int
 pc:Int
 deriving DecidableEq
@[ext] structure Cel where
 st:Int
 gen:Int
 by_:Int
 pc:Int
 f0:Tri
 f1:Tri
 deriving DecidableEq
@[ext] structure Ins where
 op:Int
 a:Int
 b:Int
 c:Int
 n:Int
 deriving DecidableEq
@[ext] structure Cfg where
 scheme:Int
 order:Int
 thr:Int
 fuel:Int
 depth:Int
 deriving DecidableEq
@[ext] structure Prg where
 roots:Int
 cells:Int
 slots:Int
 code:List (List Ins)
 deriving DecidableEq
@[ext] structure Mic where
 kind:Int
 i:Int
 n:Int
 seen:List Int
 deriving DecidableEq
@[ext] structure Thr where
 pc:Int
 fuel:Int
 status:Int
 r0:Tri
 r1:Tri
 r2:Tri
 r3:Tri
 mi:Mic
 bag:List Tri
 snap:List Int
 old:Int
 deriving DecidableEq
@[ext] structure Ste where
 thr:List Thr
 buf:List (List Ent)
 roots:List Tri
 slots:List Tri
 cells:List Cel
 free:List Int
 epoch:Int
 marks:List Int
 counts:List Int
 deriving DecidableEq
@[ext] structure Atn where
 kind:Int
 place:Tri
 at_:Tri
 want:Tri
 word:Tri
 gen:Int
 deriving DecidableEq
def Tri.k(x:Tri):List PV:=[iv x.a,iv x.b,iv x.c]
def Ent.k(x:Ent):List PV:=[iv x.p.a,iv x.p.b,iv x.p.c,iv x.w.a,iv x.w.b,iv x.w.c,iv x.gen,iv x.pc]
def Cel.k(x:Cel):List PV:=[iv x.st,iv x.gen,iv x.by_,iv x.pc,iv x.f0.a,iv x.f0.b,iv x.f0.c,iv x.f1.a,iv x.f1.b,iv x.f1.c]
def Ins.k(x:Ins):List PV:=[iv x.op,iv x.a,iv x.b,iv x.c,iv x.n]
def Cfg.k(x:Cfg):List PV:=[iv x.scheme,iv x.order,iv x.thr,iv x.fuel,iv x.depth]
abbrev slI(l:List Int):PV:= .sl 1 (l.map fun n=>[iv n])
abbrev sl3(l:List Tri):PV:= .sl 3 (l.map Tri.k)
abbrev slE(l:List Ent):PV:= .sl 8 (l.map Ent.k)
abbrev slC(l:List Cel):PV:= .sl 10 (l.map Cel.k)
abbrev slN(l:List Ins):PV:= .sl 5 (l.map Ins.k)
abbrev slNN(l:List (List Ins)):PV:= .sl 1 (l.map fun x=>[slN x])
abbrev slEE(l:List (List Ent)):PV:= .sl 1 (l.map fun x=>[slE x])
def Prg.k(x:Prg):List PV:=[iv x.roots,iv x.cells,iv x.slots,slNN x.code]
def Thr.k(x:Thr):List PV:=[iv x.pc,iv x.fuel,iv x.status,iv x.r0.a,iv x.r0.b,iv x.r0.c,iv x.r1.a,iv x.r1.b,iv x.r1.c,iv x.r2.a,iv x.r2.b,iv x.r2.c,iv x.r3.a,iv x.r3.b,iv x.r3.c,iv x.mi.kind,iv x.mi.i,iv x.mi.n,slI x.mi.seen,sl3 x.bag,slI x.snap,iv x.old]
abbrev slT(l:List Thr):PV:= .sl 22 (l.map Thr.k)
def Ste.k(x:Ste):List PV:=[slT x.thr,slEE x.buf,sl3 x.roots,sl3 x.slots,slC x.cells,slI x.free,iv x.epoch,slI x.marks,slI x.counts]
def Atn.k(x:Atn):List PV:=[iv x.kind,iv x.place.a,iv x.place.b,iv x.place.c,iv x.at_.a,iv x.at_.b,iv x.at_.c,iv x.want.a,iv x.want.b,iv x.want.c,iv x.word.a,iv x.word.b,iv x.word.c,iv x.gen]
attribute [simp] Tri.k Ins.k Cfg.k Prg.k
@[simp] theorem Tri.eta (x:Tri):Tri.mk x.a x.b x.c=x:=_root_.id rfl
@[simp] theorem Thr.len (x:Thr):x.k.length=22:=_root_.id rfl
@[simp] theorem Atn.len (x:Atn):x.k.length=14:=_root_.id rfl
@[simp] theorem Ent.len (x:Ent):x.k.length=8:=_root_.id rfl
@[simp] theorem Cel.len (x:Cel):x.k.length=10:=_root_.id rfl
def W2w:List NT:=[.any,.any,.any,.any,.any,.any,.any,.any,.any,.any,.any,.any,.any,.any,.any,.any,.any,.any,.sl 1 [],.sl 3 [],.sl 1 [],.any]
def Wyt:List NT:=[.any,.any,.any,.sl 1 []]
def W42:List NT:=[.sl 22 W2w,.sl 1 [.sl 8 []],.sl 3 [],.sl 3 [],.sl 10 [],.sl 1 [],.any,.sl 1 [],.sl 1 []]
@[simp] theorem Va9 (x:Thr):W0n 0 22 true (some (.ac (x.k.map .p)))=some (ag x.k):=_root_.id rfl
@[simp] theorem V41 (x:Thr):W0n 0 1 false (some (.ac (x.k.map .p)))=some (I .i64 x.pc):=_root_.id rfl
@[simp] theorem Wyu (x:Thr):W0n 1 1 false (some (.ac (x.k.map .p)))=some (I .i64 x.fuel):=_root_.id rfl
@[simp] theorem Wtp (x:Thr):W0n 2 1 false (some (.ac (x.k.map .p)))=some (I .i64 x.status):=_root_.id rfl
@[simp] theorem Wtq (x:Thr) (rg:List Reg):W01 rg 1 false (.c (.rp (x.k.drop 2)))=some (I .i64 x.status):=_root_.id rfl
@[simp] theorem V42 (x:Thr):W0n 3 3 true (some (.ac (x.k.map .p)))=some (.agg [.p (iv x.r0.a),.p (iv x.r0.b),.p (iv x.r0.c)]):=_root_.id rfl
@[simp] theorem V43 (x:Thr):W0n 6 3 true (some (.ac (x.k.map .p)))=some (.agg [.p (iv x.r1.a),.p (iv x.r1.b),.p (iv x.r1.c)]):=_root_.id rfl
@[simp] theorem V44 (x:Thr):W0n 9 3 true (some (.ac (x.k.map .p)))=some (.agg [.p (iv x.r2.a),.p (iv x.r2.b),.p (iv x.r2.c)]):=_root_.id rfl
@[simp] theorem V45 (x:Thr):W0n 12 3 true (some (.ac (x.k.map .p)))=some (.agg [.p (iv x.r3.a),.p (iv x.r3.b),.p (iv x.r3.c)]):=_root_.id rfl
@[simp] theorem Ws6 (x:Thr):W0n 15 1 false (some (.ac (x.k.map .p)))=some (I .i64 x.mi.kind):=_root_.id rfl
@[simp] theorem Ws7 (x:Thr) (rg:List Reg):W01 rg 1 false (.c (.rp (x.k.drop 15)))=some (I .i64 x.mi.kind):=_root_.id rfl
@[simp] theorem Wyv (x:Thr):W0n 16 1 false (some (.ac (x.k.map .p)))=some (I .i64 x.mi.i):=_root_.id rfl
@[simp] theorem Wyw (x:Thr) (rg:List Reg):W01 rg 1 false (.c (.rp (x.k.drop 16)))=some (I .i64 x.mi.i):=_root_.id rfl
@[simp] theorem Wyx (x:Thr):W0n 17 1 false (some (.ac (x.k.map .p)))=some (I .i64 x.mi.n):=_root_.id rfl
@[simp] theorem Wyy (x:Thr) (rg:List Reg):W01 rg 1 false (.c (.rp (x.k.drop 17)))=some (I .i64 x.mi.n):=_root_.id rfl
@[simp] theorem Ws8 (x:Thr):W0n 18 1 false (some (.ac (x.k.map .p)))=some (.c (.p (slI x.mi.seen))):=_root_.id rfl
@[simp] theorem Ws9 (x:Thr) (rg:List Reg):W01 rg 1 false (.c (.rp (x.k.drop 18)))=some (.c (.p (slI x.mi.seen))):=_root_.id rfl
@[simp] theorem V0w (x:Thr):W0n 19 1 false (some (.ac (x.k.map .p)))=some (.c (.p (sl3 x.bag))):=_root_.id rfl
@[simp] theorem V0x (x:Thr) (rg:List Reg):W01 rg 1 false (.c (.rp (x.k.drop 19)))=some (.c (.p (sl3 x.bag))):=_root_.id rfl
@[simp] theorem Wyz (x:Thr):W0n 20 1 false (some (.ac (x.k.map .p)))=some (.c (.p (slI x.snap))):=_root_.id rfl
@[simp] theorem Wz0 (x:Thr) (rg:List Reg):W01 rg 1 false (.c (.rp (x.k.drop 20)))=some (.c (.p (slI x.snap))):=_root_.id rfl
@[simp] theorem V0y (x:Thr):W0n 21 1 false (some (.ac (x.k.map .p)))=some (I .i64 x.old):=_root_.id rfl
@[simp] theorem V0z (x:Thr) (rg:List Reg):W01 rg 1 false (.c (.rp (x.k.drop 21)))=some (I .i64 x.old):=_root_.id rfl
@[simp] theorem V46 (x:Thr):W0n 15 4 true (some (.ac (x.k.map .p)))=some (.agg [.p (iv x.mi.kind),.p (iv x.mi.i),.p (iv x.mi.n),.p (slI x.mi.seen)]):=_root_.id rfl
@[simp] theorem Vaa (x:Ste):W0n 0 9 true (some (.ac (x.k.map .p)))=some (ag x.k):=_root_.id rfl
@[simp] theorem V10 (x:Ste):W0n 0 1 false (some (.ac (x.k.map .p)))=some (.c (.p (slT x.thr))):=_root_.id rfl
@[simp] theorem V11 (x:Ste):W0n 1 1 false (some (.ac (x.k.map .p)))=some (.c (.p (slEE x.buf))):=_root_.id rfl
@[simp] theorem Wwb (x:Ste):W0n 2 1 false (some (.ac (x.k.map .p)))=some (.c (.p (sl3 x.roots))):=_root_.id rfl
@[simp] theorem Wwc (x:Ste):W0n 3 1 false (some (.ac (x.k.map .p)))=some (.c (.p (sl3 x.slots))):=_root_.id rfl
@[simp] theorem Wwd (x:Ste):W0n 4 1 false (some (.ac (x.k.map .p)))=some (.c (.p (slC x.cells))):=_root_.id rfl
@[simp] theorem Wz1 (x:Ste):W0n 5 1 false (some (.ac (x.k.map .p)))=some (.c (.p (slI x.free))):=_root_.id rfl
@[simp] theorem Wwe (x:Ste):W0n 6 1 false (some (.ac (x.k.map .p)))=some (I .i64 x.epoch):=_root_.id rfl
@[simp] theorem Wwf (x:Ste):W0n 7 1 false (some (.ac (x.k.map .p)))=some (.c (.p (slI x.marks))):=_root_.id rfl
@[simp] theorem Wtr (x:Ste):W0n 8 1 false (some (.ac (x.k.map .p)))=some (.c (.p (slI x.counts))):=_root_.id rfl
@[simp] theorem Vab (x:Atn):W0n 0 14 true (some (.ac (x.k.map .p)))=some (ag x.k):=_root_.id rfl
@[simp] theorem Wz2 (x:Atn):W0n 0 1 false (some (.ac (x.k.map .p)))=some (I .i64 x.kind):=_root_.id rfl
@[simp] theorem Vac (x:Ent):W0n 0 8 true (some (.ac (x.k.map .p)))=some (ag x.k):=_root_.id rfl
@[simp] theorem V69 (x:Ent):W0n 0 3 true (some (.ac (x.k.map .p)))=some (.agg [.p (iv x.p.a),.p (iv x.p.b),.p (iv x.p.c)]):=_root_.id rfl
@[simp] theorem V6a (x:Ent):W0n 3 3 true (some (.ac (x.k.map .p)))=some (.agg [.p (iv x.w.a),.p (iv x.w.b),.p (iv x.w.c)]):=_root_.id rfl
@[simp] theorem V12 (x:Ent):W0n 6 1 false (some (.ac (x.k.map .p)))=some (I .i64 x.gen):=_root_.id rfl
@[simp] theorem V47 (x:Cel):W0n 0 1 false (some (.ac (x.k.map .p)))=some (I .i64 x.st):=_root_.id rfl
@[simp] theorem V13 (x:Cel):W0n 1 1 false (some (.ac (x.k.map .p)))=some (I .i64 x.gen):=_root_.id rfl
@[simp] theorem V14 (x:Cel):W0n 2 1 false (some (.ac (x.k.map .p)))=some (I .i64 x.by_):=_root_.id rfl
@[simp] theorem V48 (x:Cel):W0n 3 1 false (some (.ac (x.k.map .p)))=some (I .i64 x.pc):=_root_.id rfl
@[simp] theorem V49 (x:Cel):W0n 4 3 true (some (.ac (x.k.map .p)))=some (.agg [.p (iv x.f0.a),.p (iv x.f0.b),.p (iv x.f0.c)]):=_root_.id rfl
@[simp] theorem V4a (x:Cel):W0n 7 3 true (some (.ac (x.k.map .p)))=some (.agg [.p (iv x.f1.a),.p (iv x.f1.b),.p (iv x.f1.c)]):=_root_.id rfl
end Go.Sim
namespace Go.Sim
open Go.RowKit Go.Proofs.YtahoelmjfgoedaaGreat.T Go.Proofs.YtahoelmjfgoedaaGreat.B
def nmL:List (List UInt8):=[[],[104,97,108,116],[115,101,116],[99,111,112,121],[97,100,100],[115,117,98],[109,117,108],[100,105,118],[106,117,109,112],[122,101,114,111],[115,97,109,101],[108,111,111,107],[112,117,116],[115,119,97,112],[108,111,97,100],[115,116,111,114,101],[99,97,115],[102,101,110,99,101],[110,101,119],[102,114,101,101],[114,101,116,105,114,101],[103,117,97,114,100],[99,108,101,97,114],[101,110,116,101,114],[108,101,97,118,101],[113,117,105,101,116]]
def shL:List (List UInt8):=[[],[45,45,45,45],[114,45,45,110],[114,114,45,45],[114,114,114,45],[114,114,114,45],[114,114,114,45],[114,114,114,45],[45,45,45,116],[114,45,45,116],[114,114,45,116],[114,103,45,45],[103,114,45,45],[114,114,114,103],[114,114,45,102],[114,114,45,102],[114,114,114,102],[45,45,45,45],[114,45,45,45],[114,45,45,45],[114,45,45,45],[114,45,45,115],[45,45,45,115],[45,45,45,45],[45,45,45,45],[45,45,45,45]]
def strA(l:List UInt8):AV:= .c (.p (.v (.string ⟨l.toArray⟩)))
def shOf(op:Int):List UInt8:=if 0≤op∧op<26 then shL.getD op.toNat []else []
def kindA:List AC:=(nmL.zip shL).flatMap fun p=>[.p (.v (.string ⟨p.1.toArray⟩)),.p (.v (.string ⟨p.2.toArray⟩))]
noncomputable def bk00:Book:=⟨Go.Proofs.Tryz.prog,tab,lps,fun _ _ _=>none,fun _=>none⟩
theorem Wps:bk00.Ok:=⟨Wiz,Wj0,⟨(fun _ _ _ _ _ h=>by cases h),(fun _ _ _ _ _ h=>by cases h)⟩⟩
theorem Weo:bk00.evalK 2 4 (.fn 334) [] []=some (.agg kindA,[]):=by kernel_rfl
theorem Wj1(ρ:Nat→Nat):W0u ρ (.agg kindA)= .agg kindA:=by
 simp only[W0u,kindA]
 congr 1
theorem FS.overP{P:Program}{f:Nat}{args:List AV}{v:AV}(ha:∀ρ:Nat→Nat,args.map (W0u ρ)=args)(hv:∀ρ:Nat→Nat,W0u ρ v=v)(h:FS P f args [] fun r rg=>r=v∧rg=[])(rg:List Reg):FS P f args rg fun r rg'=>r=v∧rg'=rg:=by
 have:=FS.frame h rg [] List.nodup_nil trivial
 rw[ha]at this
 refine this.mono fun r rg' ⟨r0,m,⟨e1,e2⟩,e3,e4⟩=> ?_
 subst e1 e2
 exact ⟨e3.trans (hv _),by rw[e4]; simp[W5a]⟩
theorem V8n(ρ:Nat→Nat)(k:IntKind)(n:Int):W0u ρ (I k n)=I k n:=by simp[W0u,W12]
theorem Wpt(ρ:Nat→Nat)(l:List UInt8):W0u ρ (strA l)=strA l:=by simp[W0u,W12,strA]
theorem V4b(ρ:Nat→Nat)(sz:Nat)(l:List (List PV)):W0u ρ (Sl sz l)=Sl sz l:=by simp[W0u,W12]
def O1:W0i:=fun k args rg=>match k,args with
 | .fn 334,[]=>some (.agg kindA,rg)
 | _,_=>none
theorem V8o:CallOk Go.Proofs.Tryz.prog O1:=by
 refine ⟨fun f args regs r rg h=> ?_,fun id args regs r rg h=> ?_⟩
 ·unfold O1 at h
  split at h
  ·rename_i e
   cases e
   cases h
   exact FS.overP (fun _=>rfl) Wj1 ((Book.evalK_ok Wps 2 4).fn 334 _ [] _ _ Weo) _
  ·cases h
 ·unfold O1 at h
  split at h
  ·rename_i e; cases e
  ·cases h
noncomputable def bk0:Book:=⟨Go.Proofs.Tryz.prog,tab,lps,O1,fun _=>none⟩
theorem Wwg:bk0.Ok:=⟨Wiz,Wj0,V8o⟩
theorem Wz3:bk0.evalS shF 40 30 (.fn 15) [] []=some (.c (.p (.v (.bool true))),[]):=by kernel_rfl
theorem Wts(rg:List Reg):FS Go.Proofs.Tryz.prog 15 [] rg fun r rg'=>r= .c (.p (.v (.bool true)))∧rg'=rg:=
 FS.overP (fun _=>rfl) (fun _=>rfl) ((Book.evalS_ok Wwg Wpr 40 30).fn 15 [] [] _ _ Wz3) rg
theorem V4c:(List.range 26).map (fun (n:Nat)=>bk0.evalS shF 60 12 (.fn 218) [I .i64 n] [])=shL.map fun l=>some (strA l,[]):=by kernel_rfl
theorem V8p:(List.range 26).map (fun (n:Nat)=>bk0.evalS shF 60 12 (.fn 317) [I .i64 n] [])=nmL.map fun l=>some (strA l,[]):=by kernel_rfl
def allS:List UInt8:=[104,97,108,116,32,45,45,45,45,32,115,101,116,32,114,45,45,110,32,99,111,112,121,32,114,114,45,45,32,97,100,100,32,114,114,114,45,32,115,117,98,32,114,114,114,45,32,109,117,108,32,114,114,114,45,32,100,105,118,32,114,114,114,45,32,106,117,109,112,32,45,45,45,116,32,122,101,114,111,32,114,45,45,116,32,115,97,109,101,32,114,114,45,116,32,108,111,111,107,32,114,103,45,45,32,112,117,116,32,103,114,45,45,32,115,119,97,112,32,114,114,114,103,32,108,111,97,100,32,114,114,45,102,32,115,116,111,114,101,32,114,114,45,102,32,99,97,115,32,114,114,114,102,32,102,101,110,99,101,32,45,45,45,45,32,110,101,119,32,114,45,45,45,32,102,114,101,101,32,114,45,45,45,32,114,101,116,105,114,101,32,114,45,45,45,32,103,117,97,114,100,32,114,45,45,115,32,99,108,101,97,114,32,45,45,45,115,32,101,110,116,101,114,32,45,45,45,45,32,108,101,97,118,101,32,45,45,45,45,32,113,117,105,101,116,32,45,45,45,45]
def wordL:List (List UInt8):=[[104,97,108,116],[45,45,45,45],[115,101,116],[114,45,45,110],[99,111,112,121],[114,114,45,45],[97,100,100],[114,114,114,45],[115,117,98],[114,114,114,45],[109,117,108],[114,114,114,45],[100,105,118],[114,114,114,45],[106,117,109,112],[45,45,45,116],[122,101,114,111],[114,45,45,116],[115,97,109,101],[114,114,45,116],[108,111,111,107],[114,103,45,45],[112,117,116],[103,114,45,45],[115,119,97,112],[114,114,114,103],[108,111,97,100],[114,114,45,102],[115,116,111,114,101],[114,114,45,102],[99,97,115],[114,114,114,102],[102,101,110,99,101],[45,45,45,45],[110,101,119],[114,45,45,45],[102,114,101,101],[114,45,45,45],[114,101,116,105,114,101],[114,45,45,45],[103,117,97,114,100],[114,45,45,115],[99,108,101,97,114],[45,45,45,115],[101,110,116,101,114],[45,45,45,45],[108,101,97,118,101],[45,45,45,45],[113,117,105,101,116],[45,45,45,45]]
noncomputable def bkz:Book:=⟨Go.Proofs.Tryz.prog,tab,lps,fun _ _ _=>none,fun f=>bif Nat.beq f 259 then some []else none⟩
theorem V4d:bkz.Ok:=⟨Wiz,Wj0,⟨(fun _ _ _ _ _ h=>by cases h),(fun _ _ _ _ _ h=>by cases h)⟩⟩
def Wkx:List (List PV):=wordL.map fun l=>[.v (.string ⟨l.toArray⟩)]
theorem Wpu:bkz.evalS shF 400 12 (.fn 259) [strA allS] []=some (Sl 1 Wkx,[]):=by kernel_rfl
theorem Wwh{f:Nat}{L:List (List UInt8)}(h:(List.range 26).map (fun (n:Nat)=>bk0.evalS shF 60 12 (.fn f) [I .i64 n] [])=L.map fun l=>some (strA l,[])){n:Int}(h0:0≤n)(h1:n<26)(rg:List Reg):
  FS Go.Proofs.Tryz.prog f [I .i64 n] rg fun r rg'=>r=strA (L.getD n.toNat [])∧rg'=rg:=by
 have hl:L.length=26:=by simpa using (congrArg List.length h).symm
 have hn:n.toNat<26:=by omega
 have e:=congrArg (fun l=>l[n.toNat]?) h
 simp only[Zz,Yy hn,Yi]at e
 rw[Z2 (by omega),Yi,Int.toNat_of_nonneg h0]at e
 have e2:L.getD n.toNat []=L[n.toNat]'(by omega):=by rw[Zc,Z2 (by omega)]; rfl
 rw[e2]
 exact FS.overP (fun ρ=>by simp[V8n]) (fun ρ=>Wpt ρ _) ((Book.evalS_ok Wwg Wpr 60 12).fn f _ [] _ _ (Y7 e)) rg
def Wtt:Nat→Prop:=fun _=>False
def Wgb:Env:=⟨0,fun _=>none⟩
theorem Wz4{P:Program}(W:World):RS P W W [] Wtt Wgb [] where
 keep:=Keep.of_below (Below.refl _ _)
 base_lt:=fun b h=>h.elim
 len:=rfl
 reg:=fun id r h=>by simp at h
 own:=fun id r g c h=>by simp at h
 inj:=fun i j r r' g c c' h=>by simp at h
theorem Wpv{P:Program}{f:Nat}{args:List AV}{vs:List Value}(W:World)(h:FS P f args [] fun res rg=>res= .c (.p (.v (.bool true)))∧rg=[])(ha:All2 (VRel W Wgb (W04 Wtt Wgb [])) args vs):
  Calls P f vs.toArray W fun e W'=>e= .returned (.bool true)∧Below W.heap.size W W':=by
 refine (h.2 W [] Wtt Wgb vs (Wz4 W) ha).mono fun e W' hh=> ?_
 obtain ⟨v,res,rg,env',rfl,⟨rfl,rfl⟩,hrs,hv,_⟩:=hh
 have:=(W1w hv (x:= .bool true) rfl).1
 exact ⟨by rw[this],hrs.keep.below⟩
end Go.Sim
