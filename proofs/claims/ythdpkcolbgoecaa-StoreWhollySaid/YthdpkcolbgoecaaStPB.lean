/- A part of the proof. No conditions of its own beyond those that its theorems name. -/
import Derived.Test.YthdpkcolbgoecaaStD

namespace Pv
open Go Go.Proofs

theorem S3_14_eq (t1 : List PV) (t9 : List PV) (t10 : Int) (t11 : Int) (ae : Nat) (af : Bool) (ag : Bool) (ah : Int) (ai : Int) (aj : Int) (aa : Int) (ab : Int) (ac : Int) (ad : Int) (ak : Int) (al : Int) (am : Bool) (x2 : List PV) (x3 : List PV) (G : Ex → St → Prop) : evC C3 (codeOf Try.f3 [1, 1, 1, 1, 1, 1, 0, 1, 0, 0, 1, 0, 0, 1, 0, 1, 0, 0]) (mkSt (skU 1 ((.list 34 t1) :: skU 3 ((.ptr 0 64 0 []) :: skU 1 ((.ptr 1 57 0 []) :: skU 1 ((.dmap 9 74 t9) :: (.int .i64 t10) :: (.int .i64 t11) :: skU 176 []))))) [(.box true 64 (.agg [(.sl 2 111 0 ae), (.bool af), (.bool ag), (.int .i64 ah), (.int .i64 ai), (.int .i64 aj)])), (.box true 57 (.agg [(.ptr 0 64 0 []), (.mapr 3), (.agg [(.int .u64 aa), (.int .i64 ab), (.int .i64 ac), (.int .u32 ad)]), (.int .i64 ak), (.int .u64 al), (.bool am)])), (.row true 111 x2), (.map false 9 77 x3)]) G = S3_14 t1 t9 t10 ae af ag ah ai aj aa ab ac ad ak al am x2 x3 t11 (fun t11 => G .normal (mkSt (skU 1 ((.list 34 t1) :: skU 3 ((.ptr 0 64 0 []) :: skU 1 ((.ptr 1 57 0 []) :: skU 1 ((.dmap 9 74 t9) :: (.int .i64 t10) :: (.int .i64 t11) :: skU 176 []))))) [(.box true 64 (.agg [(.sl 2 111 0 ae), (.bool af), (.bool ag), (.int .i64 ah), (.int .i64 ai), (.int .i64 aj)])), (.box true 57 (.agg [(.ptr 0 64 0 []), (.mapr 3), (.agg [(.int .u64 aa), (.int .i64 ab), (.int .i64 ac), (.int .u32 ad)]), (.int .i64 ak), (.int .u64 al), (.bool am)])), (.row true 111 x2), (.map false 9 77 x3)])) (fun z0 => G .ret (mkSt (skU 4 ((.bool z0) :: skU 183 [])) [])) (fun z3 => G (.exit 2) (mkSt (skU 1 ((.list 34 t1) :: skU 3 ((.ptr 0 64 0 []) :: skU 1 ((.ptr 1 57 0 []) :: skU 1 ((.dmap 9 74 t9) :: (.int .i64 t10) :: (.int .i64 z3) :: skU 176 []))))) [(.box true 64 (.agg [(.sl 2 111 0 ae), (.bool af), (.bool ag), (.int .i64 ah), (.int .i64 ai), (.int .i64 aj)])), (.box true 57 (.agg [(.ptr 0 64 0 []), (.mapr 3), (.agg [(.int .u64 aa), (.int .i64 ab), (.int .i64 ac), (.int .u32 ad)]), (.int .i64 ak), (.int .u64 al), (.bool am)])), (.row true 111 x2), (.map false 9 77 x3)])) := by kernel_rfl
theorem R3_14_eq (t1 : List PV) (t9 : List PV) (t10 : Int) (ae : Nat) (af : Bool) (ag : Bool) (ah : Int) (ai : Int) (aj : Int) (aa : Int) (ab : Int) (ac : Int) (ad : Int) (ak : Int) (al : Int) (am : Bool) (x2 : List PV) (x3 : List PV) (G : Ex → St → Prop) : ∀ (n : Nat) (t11 : Int), evLoop C3 (codeOf Try.f3 [1, 1, 1, 1, 1, 1, 0, 1, 0, 0, 1, 0, 0, 1, 0, 1, 0, 0]) n (mkSt (skU 1 ((.list 34 t1) :: skU 3 ((.ptr 0 64 0 []) :: skU 1 ((.ptr 1 57 0 []) :: skU 1 ((.dmap 9 74 t9) :: (.int .i64 t10) :: (.int .i64 t11) :: skU 176 []))))) [(.box true 64 (.agg [(.sl 2 111 0 ae), (.bool af), (.bool ag), (.int .i64 ah), (.int .i64 ai), (.int .i64 aj)])), (.box true 57 (.agg [(.ptr 0 64 0 []), (.mapr 3), (.agg [(.int .u64 aa), (.int .i64 ab), (.int .i64 ac), (.int .u32 ad)]), (.int .i64 ak), (.int .u64 al), (.bool am)])), (.row true 111 x2), (.map false 9 77 x3)]) G = R3_14 t1 t9 t10 ae af ag ah ai aj aa ab ac ad ak al am x2 x3 (fun z0 => G .ret (mkSt (skU 4 ((.bool z0) :: skU 183 [])) [])) (fun z3 => G (.exit 2) (mkSt (skU 1 ((.list 34 t1) :: skU 3 ((.ptr 0 64 0 []) :: skU 1 ((.ptr 1 57 0 []) :: skU 1 ((.dmap 9 74 t9) :: (.int .i64 t10) :: (.int .i64 z3) :: skU 176 []))))) [(.box true 64 (.agg [(.sl 2 111 0 ae), (.bool af), (.bool ag), (.int .i64 ah), (.int .i64 ai), (.int .i64 aj)])), (.box true 57 (.agg [(.ptr 0 64 0 []), (.mapr 3), (.agg [(.int .u64 aa), (.int .i64 ab), (.int .i64 ac), (.int .u32 ad)]), (.int .i64 ak), (.int .u64 al), (.bool am)])), (.row true 111 x2), (.map false 9 77 x3)])) n t11
  | 0, _ => rfl
  | n + 1, t11 => (S3_14_eq t1 t9 t10 t11 ae af ag ah ai aj aa ab ac ad ak al am x2 x3 (fun e s => match e with | .normal => evLoop C3 (codeOf Try.f3 [1, 1, 1, 1, 1, 1, 0, 1, 0, 0, 1, 0, 0, 1, 0, 1, 0, 0]) n s G | .exit id => G (.exit id) s | .ret => G .ret s)).trans (congrArg (fun q => S3_14 t1 t9 t10 ae af ag ah ai aj aa ab ac ad ak al am x2 x3 t11 q (fun z0 => G .ret (mkSt (skU 4 ((.bool z0) :: skU 183 [])) [])) (fun z3 => G (.exit 2) (mkSt (skU 1 ((.list 34 t1) :: skU 3 ((.ptr 0 64 0 []) :: skU 1 ((.ptr 1 57 0 []) :: skU 1 ((.dmap 9 74 t9) :: (.int .i64 t10) :: (.int .i64 z3) :: skU 176 []))))) [(.box true 64 (.agg [(.sl 2 111 0 ae), (.bool af), (.bool ag), (.int .i64 ah), (.int .i64 ai), (.int .i64 aj)])), (.box true 57 (.agg [(.ptr 0 64 0 []), (.mapr 3), (.agg [(.int .u64 aa), (.int .i64 ab), (.int .i64 ac), (.int .u32 ad)]), (.int .i64 ak), (.int .u64 al), (.bool am)])), (.row true 111 x2), (.map false 9 77 x3)]))) (funext fun t11 => R3_14_eq t1 t9 t10 ae af ag ah ai aj aa ab ac ad ak al am x2 x3 G n t11))
theorem R3_14_eqK (t1 : List PV) (t9 : List PV) (t10 : Int) (ae : Nat) (af : Bool) (ag : Bool) (ah : Int) (ai : Int) (aj : Int) (aa : Int) (ab : Int) (ac : Int) (ad : Int) (ak : Int) (al : Int) (am : Bool) (x2 : List PV) (x3 : List PV) (K : Ex → List PV → List Blk → Prop) (n : Nat) (t11 : Int) : R3_14 t1 t9 t10 ae af ag ah ai aj aa ab ac ad ak al am x2 x3 (fun z0 => K .ret (skU 4 ((.bool z0) :: skU 183 [])) []) (fun z3 => K (.exit 2) (skU 1 ((.list 34 t1) :: skU 3 ((.ptr 0 64 0 []) :: skU 1 ((.ptr 1 57 0 []) :: skU 1 ((.dmap 9 74 t9) :: (.int .i64 t10) :: (.int .i64 z3) :: skU 176 []))))) [(.box true 64 (.agg [(.sl 2 111 0 ae), (.bool af), (.bool ag), (.int .i64 ah), (.int .i64 ai), (.int .i64 aj)])), (.box true 57 (.agg [(.ptr 0 64 0 []), (.mapr 3), (.agg [(.int .u64 aa), (.int .i64 ab), (.int .i64 ac), (.int .u32 ad)]), (.int .i64 ak), (.int .u64 al), (.bool am)])), (.row true 111 x2), (.map false 9 77 x3)]) n t11 = evLoop C3 (codeOf Try.f3 [1, 1, 1, 1, 1, 1, 0, 1, 0, 0, 1, 0, 0, 1, 0, 1, 0, 0]) n (mkSt (skU 1 ((.list 34 t1) :: skU 3 ((.ptr 0 64 0 []) :: skU 1 ((.ptr 1 57 0 []) :: skU 1 ((.dmap 9 74 t9) :: (.int .i64 t10) :: (.int .i64 t11) :: skU 176 []))))) [(.box true 64 (.agg [(.sl 2 111 0 ae), (.bool af), (.bool ag), (.int .i64 ah), (.int .i64 ai), (.int .i64 aj)])), (.box true 57 (.agg [(.ptr 0 64 0 []), (.mapr 3), (.agg [(.int .u64 aa), (.int .i64 ab), (.int .i64 ac), (.int .u32 ad)]), (.int .i64 ak), (.int .u64 al), (.bool am)])), (.row true 111 x2), (.map false 9 77 x3)]) (onSt K) := ((R3_14_eq t1 t9 t10 ae af ag ah ai aj aa ab ac ad ak al am x2 x3 (onSt K) n t11).trans (by kernel_rfl)).symm
theorem Q3_14_ok : LoopOk C3 (codeOf Try.f3 [1, 1, 1, 1, 1, 1, 0, 1, 0, 0, 1, 0, 0, 1, 0, 1, 0, 0]) := LoopOk.of (l := Q3_14) (by kernel_rfl) (fun t bs K h0 => by
    unfold Q3_14 at h0
    obtain ⟨r1, rfl, h1⟩ := skipU_inv h0
    obtain ⟨t1, r3, rfl, h3⟩ := lI h1
    obtain ⟨r4, rfl, h4⟩ := skipU_inv h3
    obtain ⟨r6, rfl, h6⟩ := pI h4
    obtain ⟨r7, rfl, h7⟩ := skipU_inv h6
    obtain ⟨r9, rfl, h9⟩ := pI h7
    obtain ⟨r10, rfl, h10⟩ := skipU_inv h9
    obtain ⟨r11, r12, rfl, h11⟩ := consK_inv h10
    obtain ⟨t9, rfl, h12⟩ := dmapK_inv h11
    obtain ⟨t10, r14, rfl, h14⟩ := iI h12
    obtain ⟨t11, r16, rfl, h16⟩ := iI h14
    obtain ⟨r17, rfl, h17⟩ := skipU_inv h16
    obtain ⟨rfl, h18⟩ := nilK_inv h17
    obtain ⟨r21, r19, rfl, h21⟩ := bA h18
    obtain ⟨ae, r23, rfl, h23⟩ := zI h21
    obtain ⟨af, r25, rfl, h25⟩ := bI h23
    obtain ⟨ag, r27, rfl, h27⟩ := bI h25
    obtain ⟨ah, r29, rfl, h29⟩ := iI h27
    obtain ⟨ai, r31, rfl, h31⟩ := iI h29
    obtain ⟨aj, r33, rfl, h33⟩ := iI h31
    obtain ⟨rfl, h34⟩ := nilK_inv h33
    obtain ⟨r37, r35, rfl, h37⟩ := bA h34
    obtain ⟨r39, rfl, h39⟩ := pI h37
    obtain ⟨r41, rfl, h41⟩ := mI h39
    obtain ⟨r44, r43, rfl, h43⟩ := aI h41
    obtain ⟨aa, r46, rfl, h45⟩ := iI h43
    obtain ⟨ab, r48, rfl, h47⟩ := iI h45
    obtain ⟨ac, r50, rfl, h49⟩ := iI h47
    obtain ⟨ad, r52, rfl, h51⟩ := iI h49
    obtain ⟨rfl, h52⟩ := nilK_inv h51
    obtain ⟨ak, r54, rfl, h54⟩ := iI h52
    obtain ⟨al, r56, rfl, h56⟩ := iI h54
    obtain ⟨am, r58, rfl, h58⟩ := bI h56
    obtain ⟨rfl, h59⟩ := nilK_inv h58
    obtain ⟨x2, r60, rfl, h61⟩ := bR h59
    obtain ⟨x3, r62, rfl, h63⟩ := bM h61
    obtain ⟨rfl, h64⟩ := bNilK_inv h63
    have h := h64
    obtain ⟨n, hn⟩ := h
    refine ⟨n, ?_⟩
    rw [← R3_14_eqK t1 t9 t10 ae af ag ah ai aj aa ab ac ad ak al am x2 x3 K n t11]
    exact hn)
theorem J3_33_eq (t1 : List PV) (t9 : List PV) (t10 : Int) (t12 : List PV) (t14 : Bool) (ae : Nat) (af : Bool) (ag : Bool) (ah : Int) (ai : Int) (aj : Int) (aa : Int) (ab : Int) (ac : Int) (ad : Int) (ak : Int) (al : Int) (am : Bool) (x2 : List PV) (x3 : List PV) (K : Ex → List PV → List Blk → Prop) : J3_33 t1 t9 t10 t12 t14 ae af ag ah ai aj aa ab ac ad ak al am x2 x3 (fun z1 z3 z4 z5 z6 z7 z8 z9 z10 z11 z12 z13 z14 z15 z16 z17 => K .normal (skU 1 ((.list 34 t1) :: skU 3 ((.ptr 0 64 0 []) :: skU 1 ((.ptr 1 57 0 []) :: skU 1 ((.dmap 9 74 z1) :: (.int .i64 t10) :: skU 177 []))))) [(.box true 64 (.agg [(.sl 2 111 0 z3), (.bool z4), (.bool z5), (.int .i64 z6), (.int .i64 z7), (.int .i64 z8)])), (.box true 57 (.agg [(.ptr 0 64 0 []), (.mapr 3), (.agg [(.int .u64 z9), (.int .i64 z10), (.int .i64 z11), (.int .u32 z12)]), (.int .i64 z13), (.int .u64 z14), (.bool z15)])), (.row true 111 z16), (.map false 9 77 z17)]) = evC C3 (codeOf Try.f3 [1, 1, 1, 1, 1, 1, 0, 1, 0, 0, 1, 0, 0, 1, 1, 1, 1, 1, 1, 1, 1, 1, 1, 1, 1]) (mkSt (skU 1 ((.list 34 t1) :: skU 3 ((.ptr 0 64 0 []) :: skU 3 ((.dmap 9 74 t9) :: (.int .i64 t10) :: skU 1 ((.dmap 9 74 t12) :: skU 1 ((.bool t14) :: (.ptr 1 57 0 []) :: skU 172 [])))))) [(.box true 64 (.agg [(.sl 2 111 0 ae), (.bool af), (.bool ag), (.int .i64 ah), (.int .i64 ai), (.int .i64 aj)])), (.box true 57 (.agg [(.ptr 0 64 0 []), (.mapr 3), (.agg [(.int .u64 aa), (.int .i64 ab), (.int .i64 ac), (.int .u32 ad)]), (.int .i64 ak), (.int .u64 al), (.bool am)])), (.row true 111 x2), (.map false 9 77 x3)]) (onSt K) := by kernel_rfl
theorem Q3_33_ok : RestOk C3 (codeOf Try.f3 [1, 1, 1, 1, 1, 1, 0, 1, 0, 0, 1, 0, 0, 1, 1, 1, 1, 1, 1, 1, 1, 1, 1, 1, 1]) := RestOk.to (l := Q3_33) (by kernel_rfl) (by
    intro t bs K h0
    unfold Q3_33 at h0
    obtain ⟨r1, rfl, h1⟩ := skipU_inv h0
    obtain ⟨t1, r3, rfl, h3⟩ := lI h1
    obtain ⟨r4, rfl, h4⟩ := skipU_inv h3
    obtain ⟨r6, rfl, h6⟩ := pI h4
    obtain ⟨r7, rfl, h7⟩ := skipU_inv h6
    obtain ⟨r8, r9, rfl, h8⟩ := consK_inv h7
    obtain ⟨t9, rfl, h9⟩ := dmapK_inv h8
    obtain ⟨t10, r11, rfl, h11⟩ := iI h9
    obtain ⟨r12, rfl, h12⟩ := skipU_inv h11
    obtain ⟨r13, r14, rfl, h13⟩ := consK_inv h12
    obtain ⟨t12, rfl, h14⟩ := dmapK_inv h13
    obtain ⟨r15, rfl, h15⟩ := skipU_inv h14
    obtain ⟨t14, r17, rfl, h17⟩ := bI h15
    obtain ⟨r19, rfl, h19⟩ := pI h17
    obtain ⟨r20, rfl, h20⟩ := skipU_inv h19
    obtain ⟨rfl, h21⟩ := nilK_inv h20
    obtain ⟨r24, r22, rfl, h24⟩ := bA h21
    obtain ⟨ae, r26, rfl, h26⟩ := zI h24
    obtain ⟨af, r28, rfl, h28⟩ := bI h26
    obtain ⟨ag, r30, rfl, h30⟩ := bI h28
    obtain ⟨ah, r32, rfl, h32⟩ := iI h30
    obtain ⟨ai, r34, rfl, h34⟩ := iI h32
    obtain ⟨aj, r36, rfl, h36⟩ := iI h34
    obtain ⟨rfl, h37⟩ := nilK_inv h36
    obtain ⟨r40, r38, rfl, h40⟩ := bA h37
    obtain ⟨r42, rfl, h42⟩ := pI h40
    obtain ⟨r44, rfl, h44⟩ := mI h42
    obtain ⟨r47, r46, rfl, h46⟩ := aI h44
    obtain ⟨aa, r49, rfl, h48⟩ := iI h46
    obtain ⟨ab, r51, rfl, h50⟩ := iI h48
    obtain ⟨ac, r53, rfl, h52⟩ := iI h50
    obtain ⟨ad, r55, rfl, h54⟩ := iI h52
    obtain ⟨rfl, h55⟩ := nilK_inv h54
    obtain ⟨ak, r57, rfl, h57⟩ := iI h55
    obtain ⟨al, r59, rfl, h59⟩ := iI h57
    obtain ⟨am, r61, rfl, h61⟩ := bI h59
    obtain ⟨rfl, h62⟩ := nilK_inv h61
    obtain ⟨x2, r63, rfl, h64⟩ := bR h62
    obtain ⟨x3, r65, rfl, h66⟩ := bM h64
    obtain ⟨rfl, h67⟩ := bNilK_inv h66
    have h := h67
    refine ⟨_, _, rfl, rfl, ?_⟩
    rw [← J3_33_eq t1 t9 t10 t12 t14 ae af ag ah ai aj aa ab ac ad ak al am x2 x3 K]
    exact h)
theorem J3_26_eq (t1 : List PV) (t9 : List PV) (t10 : Int) (t12 : List PV) (t13 : Int) (aa : Nat) (ab : Bool) (ac : Bool) (ad : Int) (ae : Int) (af : Int) (x1 : List PV) (K : Ex → List PV → List Blk → Prop) : J3_26 t1 t9 t10 t12 t13 aa ab ac ad ae af x1 (K .ret (skU 4 ((.bool false) :: skU 183 [])) []) (fun z1 z3 z4 z5 z6 z7 z8 z9 z10 z11 z12 z13 z14 z15 z16 z17 => K .normal (skU 1 ((.list 34 t1) :: skU 3 ((.ptr 0 64 0 []) :: skU 1 ((.ptr 1 57 0 []) :: skU 1 ((.dmap 9 74 z1) :: (.int .i64 t10) :: skU 177 []))))) [(.box true 64 (.agg [(.sl 2 111 0 z3), (.bool z4), (.bool z5), (.int .i64 z6), (.int .i64 z7), (.int .i64 z8)])), (.box true 57 (.agg [(.ptr 0 64 0 []), (.mapr 3), (.agg [(.int .u64 z9), (.int .i64 z10), (.int .i64 z11), (.int .u32 z12)]), (.int .i64 z13), (.int .u64 z14), (.bool z15)])), (.row true 111 z16), (.map false 9 77 z17)]) = evC C3 (codeOf Try.f3 [1, 1, 1, 1, 1, 1, 0, 1, 0, 0, 1, 0, 0, 1, 1, 1, 1, 1, 1, 1]) (mkSt (skU 1 ((.list 34 t1) :: skU 3 ((.ptr 0 64 0 []) :: skU 3 ((.dmap 9 74 t9) :: (.int .i64 t10) :: skU 1 ((.dmap 9 74 t12) :: (.int .i64 t13) :: skU 174 []))))) [(.box true 64 (.agg [(.sl 1 111 0 aa), (.bool ab), (.bool ac), (.int .i64 ad), (.int .i64 ae), (.int .i64 af)])), (.row true 111 x1)]) (onSt K) := by kernel_rfl
theorem Q3_26_ok : RestOk C3 (codeOf Try.f3 [1, 1, 1, 1, 1, 1, 0, 1, 0, 0, 1, 0, 0, 1, 1, 1, 1, 1, 1, 1]) := RestOk.to (l := Q3_26) (by kernel_rfl) (by
    intro t bs K h0
    unfold Q3_26 at h0
    obtain ⟨r1, rfl, h1⟩ := skipU_inv h0
    obtain ⟨t1, r3, rfl, h3⟩ := lI h1
    obtain ⟨r4, rfl, h4⟩ := skipU_inv h3
    obtain ⟨r6, rfl, h6⟩ := pI h4
    obtain ⟨r7, rfl, h7⟩ := skipU_inv h6
    obtain ⟨r8, r9, rfl, h8⟩ := consK_inv h7
    obtain ⟨t9, rfl, h9⟩ := dmapK_inv h8
    obtain ⟨t10, r11, rfl, h11⟩ := iI h9
    obtain ⟨r12, rfl, h12⟩ := skipU_inv h11
    obtain ⟨r13, r14, rfl, h13⟩ := consK_inv h12
    obtain ⟨t12, rfl, h14⟩ := dmapK_inv h13
    obtain ⟨t13, r16, rfl, h16⟩ := iI h14
    obtain ⟨r17, rfl, h17⟩ := skipU_inv h16
    obtain ⟨rfl, h18⟩ := nilK_inv h17
    obtain ⟨r21, r19, rfl, h21⟩ := bA h18
    obtain ⟨aa, r23, rfl, h23⟩ := zI h21
    obtain ⟨ab, r25, rfl, h25⟩ := bI h23
    obtain ⟨ac, r27, rfl, h27⟩ := bI h25
    obtain ⟨ad, r29, rfl, h29⟩ := iI h27
    obtain ⟨ae, r31, rfl, h31⟩ := iI h29
    obtain ⟨af, r33, rfl, h33⟩ := iI h31
    obtain ⟨rfl, h34⟩ := nilK_inv h33
    obtain ⟨x1, r35, rfl, h36⟩ := bR h34
    obtain ⟨rfl, h37⟩ := bNilK_inv h36
    have h := h37
    refine ⟨_, _, rfl, rfl, ?_⟩
    rw [← J3_26_eq t1 t9 t10 t12 t13 aa ab ac ad ae af x1 K]
    exact h)
theorem J3_24_eq (t1 : List PV) (t9 : List PV) (t10 : Int) (t12 : List PV) (t13 : Int) (ae : Nat) (af : Bool) (ag : Bool) (ah : Int) (ai : Int) (aj : Int) (aa : Int) (ab : Int) (ac : Int) (ad : Int) (ak : Int) (al : Int) (am : Bool) (x2 : List PV) (x3 : List PV) (K : Ex → List PV → List Blk → Prop) : J3_24 t1 t9 t10 t12 t13 ae af ag ah ai aj aa ab ac ad ak al am x2 x3 (K .ret (skU 4 ((.bool false) :: skU 183 [])) []) (fun z1 z3 z4 z5 z6 z7 z8 z9 z10 z11 z12 z13 z14 z15 z16 z17 => K .normal (skU 1 ((.list 34 t1) :: skU 3 ((.ptr 0 64 0 []) :: skU 1 ((.ptr 1 57 0 []) :: skU 1 ((.dmap 9 74 z1) :: (.int .i64 t10) :: skU 177 []))))) [(.box true 64 (.agg [(.sl 2 111 0 z3), (.bool z4), (.bool z5), (.int .i64 z6), (.int .i64 z7), (.int .i64 z8)])), (.box true 57 (.agg [(.ptr 0 64 0 []), (.mapr 3), (.agg [(.int .u64 z9), (.int .i64 z10), (.int .i64 z11), (.int .u32 z12)]), (.int .i64 z13), (.int .u64 z14), (.bool z15)])), (.row true 111 z16), (.map false 9 77 z17)]) = evC C3 (codeOf Try.f3 [1, 1, 1, 1, 1, 1, 0, 1, 0, 0, 1, 0, 0, 1, 1, 1, 1, 1, 1]) (mkSt (skU 1 ((.list 34 t1) :: skU 3 ((.ptr 0 64 0 []) :: skU 1 ((.ptr 1 57 0 []) :: skU 1 ((.dmap 9 74 t9) :: (.int .i64 t10) :: skU 1 ((.dmap 9 74 t12) :: (.int .i64 t13) :: skU 174 [])))))) [(.box true 64 (.agg [(.sl 2 111 0 ae), (.bool af), (.bool ag), (.int .i64 ah), (.int .i64 ai), (.int .i64 aj)])), (.box true 57 (.agg [(.ptr 0 64 0 []), (.mapr 3), (.agg [(.int .u64 aa), (.int .i64 ab), (.int .i64 ac), (.int .u32 ad)]), (.int .i64 ak), (.int .u64 al), (.bool am)])), (.row true 111 x2), (.map false 9 77 x3)]) (onSt K) := by kernel_rfl
theorem Q3_24_ok : RestOk C3 (codeOf Try.f3 [1, 1, 1, 1, 1, 1, 0, 1, 0, 0, 1, 0, 0, 1, 1, 1, 1, 1, 1]) := RestOk.to (l := Q3_24) (by kernel_rfl) (by
    intro t bs K h0
    unfold Q3_24 at h0
    obtain ⟨r1, rfl, h1⟩ := skipU_inv h0
    obtain ⟨t1, r3, rfl, h3⟩ := lI h1
    obtain ⟨r4, rfl, h4⟩ := skipU_inv h3
    obtain ⟨r6, rfl, h6⟩ := pI h4
    obtain ⟨r7, rfl, h7⟩ := skipU_inv h6
    obtain ⟨r9, rfl, h9⟩ := pI h7
    obtain ⟨r10, rfl, h10⟩ := skipU_inv h9
    obtain ⟨r11, r12, rfl, h11⟩ := consK_inv h10
    obtain ⟨t9, rfl, h12⟩ := dmapK_inv h11
    obtain ⟨t10, r14, rfl, h14⟩ := iI h12
    obtain ⟨r15, rfl, h15⟩ := skipU_inv h14
    obtain ⟨r16, r17, rfl, h16⟩ := consK_inv h15
    obtain ⟨t12, rfl, h17⟩ := dmapK_inv h16
    obtain ⟨t13, r19, rfl, h19⟩ := iI h17
    obtain ⟨r20, rfl, h20⟩ := skipU_inv h19
    obtain ⟨rfl, h21⟩ := nilK_inv h20
    obtain ⟨r24, r22, rfl, h24⟩ := bA h21
    obtain ⟨ae, r26, rfl, h26⟩ := zI h24
    obtain ⟨af, r28, rfl, h28⟩ := bI h26
    obtain ⟨ag, r30, rfl, h30⟩ := bI h28
    obtain ⟨ah, r32, rfl, h32⟩ := iI h30
    obtain ⟨ai, r34, rfl, h34⟩ := iI h32
    obtain ⟨aj, r36, rfl, h36⟩ := iI h34
    obtain ⟨rfl, h37⟩ := nilK_inv h36
    obtain ⟨r40, r38, rfl, h40⟩ := bA h37
    obtain ⟨r42, rfl, h42⟩ := pI h40
    obtain ⟨r44, rfl, h44⟩ := mI h42
    obtain ⟨r47, r46, rfl, h46⟩ := aI h44
    obtain ⟨aa, r49, rfl, h48⟩ := iI h46
    obtain ⟨ab, r51, rfl, h50⟩ := iI h48
    obtain ⟨ac, r53, rfl, h52⟩ := iI h50
    obtain ⟨ad, r55, rfl, h54⟩ := iI h52
    obtain ⟨rfl, h55⟩ := nilK_inv h54
    obtain ⟨ak, r57, rfl, h57⟩ := iI h55
    obtain ⟨al, r59, rfl, h59⟩ := iI h57
    obtain ⟨am, r61, rfl, h61⟩ := bI h59
    obtain ⟨rfl, h62⟩ := nilK_inv h61
    obtain ⟨x2, r63, rfl, h64⟩ := bR h62
    obtain ⟨x3, r65, rfl, h66⟩ := bM h64
    obtain ⟨rfl, h67⟩ := bNilK_inv h66
    have h := h67
    refine ⟨_, _, rfl, rfl, ?_⟩
    rw [← J3_24_eq t1 t9 t10 t12 t13 ae af ag ah ai aj aa ab ac ad ak al am x2 x3 K]
    exact h)
theorem J3_22_eq (t1 : List PV) (t9 : List PV) (t10 : Int) (t12 : List PV) (t13 : Int) (ae : Nat) (af : Bool) (ag : Bool) (ah : Int) (ai : Int) (aj : Int) (aa : Int) (ab : Int) (ac : Int) (ad : Int) (ak : Int) (al : Int) (am : Bool) (x2 : List PV) (x3 : List PV) (K : Ex → List PV → List Blk → Prop) : J3_22 t1 t9 t10 t12 t13 ae af ag ah ai aj aa ab ac ad ak al am x2 x3 (K .ret (skU 4 ((.bool false) :: skU 183 [])) []) (fun z1 z3 z4 z5 z6 z7 z8 z9 z10 z11 z12 z13 z14 z15 z16 z17 => K .normal (skU 1 ((.list 34 t1) :: skU 3 ((.ptr 0 64 0 []) :: skU 1 ((.ptr 1 57 0 []) :: skU 1 ((.dmap 9 74 z1) :: (.int .i64 t10) :: skU 177 []))))) [(.box true 64 (.agg [(.sl 2 111 0 z3), (.bool z4), (.bool z5), (.int .i64 z6), (.int .i64 z7), (.int .i64 z8)])), (.box true 57 (.agg [(.ptr 0 64 0 []), (.mapr 3), (.agg [(.int .u64 z9), (.int .i64 z10), (.int .i64 z11), (.int .u32 z12)]), (.int .i64 z13), (.int .u64 z14), (.bool z15)])), (.row true 111 z16), (.map false 9 77 z17)]) = evC C3 (codeOf Try.f3 [1, 1, 1, 1, 1, 1, 0, 1, 0, 0, 1, 0, 0, 1, 1, 1, 1, 1]) (mkSt (skU 1 ((.list 34 t1) :: skU 3 ((.ptr 0 64 0 []) :: skU 1 ((.ptr 1 57 0 []) :: skU 1 ((.dmap 9 74 t9) :: (.int .i64 t10) :: skU 1 ((.dmap 9 74 t12) :: (.int .i64 t13) :: skU 174 [])))))) [(.box true 64 (.agg [(.sl 2 111 0 ae), (.bool af), (.bool ag), (.int .i64 ah), (.int .i64 ai), (.int .i64 aj)])), (.box true 57 (.agg [(.ptr 0 64 0 []), (.mapr 3), (.agg [(.int .u64 aa), (.int .i64 ab), (.int .i64 ac), (.int .u32 ad)]), (.int .i64 ak), (.int .u64 al), (.bool am)])), (.row true 111 x2), (.map false 9 77 x3)]) (onSt K) := by kernel_rfl
theorem Q3_22_ok : RestOk C3 (codeOf Try.f3 [1, 1, 1, 1, 1, 1, 0, 1, 0, 0, 1, 0, 0, 1, 1, 1, 1, 1]) := RestOk.to (l := Q3_22) (by kernel_rfl) (by
    intro t bs K h0
    unfold Q3_22 at h0
    obtain ⟨r1, rfl, h1⟩ := skipU_inv h0
    obtain ⟨t1, r3, rfl, h3⟩ := lI h1
    obtain ⟨r4, rfl, h4⟩ := skipU_inv h3
    obtain ⟨r6, rfl, h6⟩ := pI h4
    obtain ⟨r7, rfl, h7⟩ := skipU_inv h6
    obtain ⟨r9, rfl, h9⟩ := pI h7
    obtain ⟨r10, rfl, h10⟩ := skipU_inv h9
    obtain ⟨r11, r12, rfl, h11⟩ := consK_inv h10
    obtain ⟨t9, rfl, h12⟩ := dmapK_inv h11
    obtain ⟨t10, r14, rfl, h14⟩ := iI h12
    obtain ⟨r15, rfl, h15⟩ := skipU_inv h14
    obtain ⟨r16, r17, rfl, h16⟩ := consK_inv h15
    obtain ⟨t12, rfl, h17⟩ := dmapK_inv h16
    obtain ⟨t13, r19, rfl, h19⟩ := iI h17
    obtain ⟨r20, rfl, h20⟩ := skipU_inv h19
    obtain ⟨rfl, h21⟩ := nilK_inv h20
    obtain ⟨r24, r22, rfl, h24⟩ := bA h21
    obtain ⟨ae, r26, rfl, h26⟩ := zI h24
    obtain ⟨af, r28, rfl, h28⟩ := bI h26
    obtain ⟨ag, r30, rfl, h30⟩ := bI h28
    obtain ⟨ah, r32, rfl, h32⟩ := iI h30
    obtain ⟨ai, r34, rfl, h34⟩ := iI h32
    obtain ⟨aj, r36, rfl, h36⟩ := iI h34
    obtain ⟨rfl, h37⟩ := nilK_inv h36
    obtain ⟨r40, r38, rfl, h40⟩ := bA h37
    obtain ⟨r42, rfl, h42⟩ := pI h40
    obtain ⟨r44, rfl, h44⟩ := mI h42
    obtain ⟨r47, r46, rfl, h46⟩ := aI h44
    obtain ⟨aa, r49, rfl, h48⟩ := iI h46
    obtain ⟨ab, r51, rfl, h50⟩ := iI h48
    obtain ⟨ac, r53, rfl, h52⟩ := iI h50
    obtain ⟨ad, r55, rfl, h54⟩ := iI h52
    obtain ⟨rfl, h55⟩ := nilK_inv h54
    obtain ⟨ak, r57, rfl, h57⟩ := iI h55
    obtain ⟨al, r59, rfl, h59⟩ := iI h57
    obtain ⟨am, r61, rfl, h61⟩ := bI h59
    obtain ⟨rfl, h62⟩ := nilK_inv h61
    obtain ⟨x2, r63, rfl, h64⟩ := bR h62
    obtain ⟨x3, r65, rfl, h66⟩ := bM h64
    obtain ⟨rfl, h67⟩ := bNilK_inv h66
    have h := h67
    refine ⟨_, _, rfl, rfl, ?_⟩
    rw [← J3_22_eq t1 t9 t10 t12 t13 ae af ag ah ai aj aa ab ac ad ak al am x2 x3 K]
    exact h)
theorem J3_20_eq (t1 : List PV) (t9 : List PV) (t10 : Int) (ae : Nat) (af : Bool) (ag : Bool) (ah : Int) (ai : Int) (aj : Int) (aa : Int) (ab : Int) (ac : Int) (ad : Int) (ak : Int) (al : Int) (am : Bool) (x2 : List PV) (x3 : List PV) (K : Ex → List PV → List Blk → Prop) : J3_20 t1 t9 t10 ae af ag ah ai aj aa ab ac ad ak al am x2 x3 (K .ret (skU 4 ((.bool false) :: skU 183 [])) []) (fun z1 z3 z4 z5 z6 z7 z8 z9 z10 z11 z12 z13 z14 z15 z16 z17 => K .normal (skU 1 ((.list 34 t1) :: skU 3 ((.ptr 0 64 0 []) :: skU 1 ((.ptr 1 57 0 []) :: skU 1 ((.dmap 9 74 z1) :: (.int .i64 t10) :: skU 177 []))))) [(.box true 64 (.agg [(.sl 2 111 0 z3), (.bool z4), (.bool z5), (.int .i64 z6), (.int .i64 z7), (.int .i64 z8)])), (.box true 57 (.agg [(.ptr 0 64 0 []), (.mapr 3), (.agg [(.int .u64 z9), (.int .i64 z10), (.int .i64 z11), (.int .u32 z12)]), (.int .i64 z13), (.int .u64 z14), (.bool z15)])), (.row true 111 z16), (.map false 9 77 z17)]) = evC C3 (codeOf Try.f3 [1, 1, 1, 1, 1, 1, 0, 1, 0, 0, 1, 0, 0, 1, 1, 1]) (mkSt (skU 1 ((.list 34 t1) :: skU 3 ((.ptr 0 64 0 []) :: skU 1 ((.ptr 1 57 0 []) :: skU 1 ((.dmap 9 74 t9) :: (.int .i64 t10) :: skU 177 []))))) [(.box true 64 (.agg [(.sl 2 111 0 ae), (.bool af), (.bool ag), (.int .i64 ah), (.int .i64 ai), (.int .i64 aj)])), (.box true 57 (.agg [(.ptr 0 64 0 []), (.mapr 3), (.agg [(.int .u64 aa), (.int .i64 ab), (.int .i64 ac), (.int .u32 ad)]), (.int .i64 ak), (.int .u64 al), (.bool am)])), (.row true 111 x2), (.map false 9 77 x3)]) (onSt K) := by kernel_rfl
theorem Q3_20_ok : RestOk C3 (codeOf Try.f3 [1, 1, 1, 1, 1, 1, 0, 1, 0, 0, 1, 0, 0, 1, 1, 1]) := RestOk.to (l := Q3_20) (by kernel_rfl) (by
    intro t bs K h0
    unfold Q3_20 at h0
    obtain ⟨r1, rfl, h1⟩ := skipU_inv h0
    obtain ⟨t1, r3, rfl, h3⟩ := lI h1
    obtain ⟨r4, rfl, h4⟩ := skipU_inv h3
    obtain ⟨r6, rfl, h6⟩ := pI h4
    obtain ⟨r7, rfl, h7⟩ := skipU_inv h6
    obtain ⟨r9, rfl, h9⟩ := pI h7
    obtain ⟨r10, rfl, h10⟩ := skipU_inv h9
    obtain ⟨r11, r12, rfl, h11⟩ := consK_inv h10
    obtain ⟨t9, rfl, h12⟩ := dmapK_inv h11
    obtain ⟨t10, r14, rfl, h14⟩ := iI h12
    obtain ⟨r15, rfl, h15⟩ := skipU_inv h14
    obtain ⟨rfl, h16⟩ := nilK_inv h15
    obtain ⟨r19, r17, rfl, h19⟩ := bA h16
    obtain ⟨ae, r21, rfl, h21⟩ := zI h19
    obtain ⟨af, r23, rfl, h23⟩ := bI h21
    obtain ⟨ag, r25, rfl, h25⟩ := bI h23
    obtain ⟨ah, r27, rfl, h27⟩ := iI h25
    obtain ⟨ai, r29, rfl, h29⟩ := iI h27
    obtain ⟨aj, r31, rfl, h31⟩ := iI h29
    obtain ⟨rfl, h32⟩ := nilK_inv h31
    obtain ⟨r35, r33, rfl, h35⟩ := bA h32
    obtain ⟨r37, rfl, h37⟩ := pI h35
    obtain ⟨r39, rfl, h39⟩ := mI h37
    obtain ⟨r42, r41, rfl, h41⟩ := aI h39
    obtain ⟨aa, r44, rfl, h43⟩ := iI h41
    obtain ⟨ab, r46, rfl, h45⟩ := iI h43
    obtain ⟨ac, r48, rfl, h47⟩ := iI h45
    obtain ⟨ad, r50, rfl, h49⟩ := iI h47
    obtain ⟨rfl, h50⟩ := nilK_inv h49
    obtain ⟨ak, r52, rfl, h52⟩ := iI h50
    obtain ⟨al, r54, rfl, h54⟩ := iI h52
    obtain ⟨am, r56, rfl, h56⟩ := bI h54
    obtain ⟨rfl, h57⟩ := nilK_inv h56
    obtain ⟨x2, r58, rfl, h59⟩ := bR h57
    obtain ⟨x3, r60, rfl, h61⟩ := bM h59
    obtain ⟨rfl, h62⟩ := bNilK_inv h61
    have h := h62
    refine ⟨_, _, rfl, rfl, ?_⟩
    rw [← J3_20_eq t1 t9 t10 ae af ag ah ai aj aa ab ac ad ak al am x2 x3 K]
    exact h)
theorem S3_9_eq (t1 : List PV) (t9 : List PV) (t10 : Int) (ae : Nat) (af : Bool) (ag : Bool) (ah : Int) (ai : Int) (aj : Int) (aa : Int) (ab : Int) (ac : Int) (ad : Int) (ak : Int) (al : Int) (am : Bool) (x2 : List PV) (x3 : List PV) (G : Ex → St → Prop) : evC C3 (codeOf Try.f3 [1, 1, 1, 1, 1, 1, 0, 1, 0, 0]) (mkSt (skU 1 ((.list 34 t1) :: skU 3 ((.ptr 0 64 0 []) :: skU 1 ((.ptr 1 57 0 []) :: skU 1 ((.dmap 9 74 t9) :: (.int .i64 t10) :: skU 177 []))))) [(.box true 64 (.agg [(.sl 2 111 0 ae), (.bool af), (.bool ag), (.int .i64 ah), (.int .i64 ai), (.int .i64 aj)])), (.box true 57 (.agg [(.ptr 0 64 0 []), (.mapr 3), (.agg [(.int .u64 aa), (.int .i64 ab), (.int .i64 ac), (.int .u32 ad)]), (.int .i64 ak), (.int .u64 al), (.bool am)])), (.row true 111 x2), (.map false 9 77 x3)]) G = S3_9 t1 t9 t10 ae af ag ah ai aj aa ab ac ad ak al am x2 x3 (fun t9 t10 ae af ag ah ai aj aa ab ac ad ak al am x2 x3 => G .normal (mkSt (skU 1 ((.list 34 t1) :: skU 3 ((.ptr 0 64 0 []) :: skU 1 ((.ptr 1 57 0 []) :: skU 1 ((.dmap 9 74 t9) :: (.int .i64 t10) :: skU 177 []))))) [(.box true 64 (.agg [(.sl 2 111 0 ae), (.bool af), (.bool ag), (.int .i64 ah), (.int .i64 ai), (.int .i64 aj)])), (.box true 57 (.agg [(.ptr 0 64 0 []), (.mapr 3), (.agg [(.int .u64 aa), (.int .i64 ab), (.int .i64 ac), (.int .u32 ad)]), (.int .i64 ak), (.int .u64 al), (.bool am)])), (.row true 111 x2), (.map false 9 77 x3)])) (fun z0 => G .ret (mkSt (skU 4 ((.bool z0) :: skU 183 [])) [])) (fun z1 z2 z3 z4 z5 z6 z7 z8 z9 z10 z11 z12 z13 z14 z15 z16 z17 => G (.exit 0) (mkSt (skU 1 ((.list 34 t1) :: skU 3 ((.ptr 0 64 0 []) :: skU 1 ((.ptr 1 57 0 []) :: skU 1 ((.dmap 9 74 z1) :: (.int .i64 z2) :: skU 177 []))))) [(.box true 64 (.agg [(.sl 2 111 0 z3), (.bool z4), (.bool z5), (.int .i64 z6), (.int .i64 z7), (.int .i64 z8)])), (.box true 57 (.agg [(.ptr 0 64 0 []), (.mapr 3), (.agg [(.int .u64 z9), (.int .i64 z10), (.int .i64 z11), (.int .u32 z12)]), (.int .i64 z13), (.int .u64 z14), (.bool z15)])), (.row true 111 z16), (.map false 9 77 z17)])) := by kernel_rfl
theorem R3_9_eq (t1 : List PV) (G : Ex → St → Prop) : ∀ (n : Nat) (t9 : List PV) (t10 : Int) (ae : Nat) (af : Bool) (ag : Bool) (ah : Int) (ai : Int) (aj : Int) (aa : Int) (ab : Int) (ac : Int) (ad : Int) (ak : Int) (al : Int) (am : Bool) (x2 : List PV) (x3 : List PV), evLoop C3 (codeOf Try.f3 [1, 1, 1, 1, 1, 1, 0, 1, 0, 0]) n (mkSt (skU 1 ((.list 34 t1) :: skU 3 ((.ptr 0 64 0 []) :: skU 1 ((.ptr 1 57 0 []) :: skU 1 ((.dmap 9 74 t9) :: (.int .i64 t10) :: skU 177 []))))) [(.box true 64 (.agg [(.sl 2 111 0 ae), (.bool af), (.bool ag), (.int .i64 ah), (.int .i64 ai), (.int .i64 aj)])), (.box true 57 (.agg [(.ptr 0 64 0 []), (.mapr 3), (.agg [(.int .u64 aa), (.int .i64 ab), (.int .i64 ac), (.int .u32 ad)]), (.int .i64 ak), (.int .u64 al), (.bool am)])), (.row true 111 x2), (.map false 9 77 x3)]) G = R3_9 t1 (fun z0 => G .ret (mkSt (skU 4 ((.bool z0) :: skU 183 [])) [])) (fun z1 z2 z3 z4 z5 z6 z7 z8 z9 z10 z11 z12 z13 z14 z15 z16 z17 => G (.exit 0) (mkSt (skU 1 ((.list 34 t1) :: skU 3 ((.ptr 0 64 0 []) :: skU 1 ((.ptr 1 57 0 []) :: skU 1 ((.dmap 9 74 z1) :: (.int .i64 z2) :: skU 177 []))))) [(.box true 64 (.agg [(.sl 2 111 0 z3), (.bool z4), (.bool z5), (.int .i64 z6), (.int .i64 z7), (.int .i64 z8)])), (.box true 57 (.agg [(.ptr 0 64 0 []), (.mapr 3), (.agg [(.int .u64 z9), (.int .i64 z10), (.int .i64 z11), (.int .u32 z12)]), (.int .i64 z13), (.int .u64 z14), (.bool z15)])), (.row true 111 z16), (.map false 9 77 z17)])) n t9 t10 ae af ag ah ai aj aa ab ac ad ak al am x2 x3
  | 0, _, _, _, _, _, _, _, _, _, _, _, _, _, _, _, _, _ => rfl
  | n + 1, t9, t10, ae, af, ag, ah, ai, aj, aa, ab, ac, ad, ak, al, am, x2, x3 => (S3_9_eq t1 t9 t10 ae af ag ah ai aj aa ab ac ad ak al am x2 x3 (fun e s => match e with | .normal => evLoop C3 (codeOf Try.f3 [1, 1, 1, 1, 1, 1, 0, 1, 0, 0]) n s G | .exit id => G (.exit id) s | .ret => G .ret s)).trans (congrArg (fun q => S3_9 t1 t9 t10 ae af ag ah ai aj aa ab ac ad ak al am x2 x3 q (fun z0 => G .ret (mkSt (skU 4 ((.bool z0) :: skU 183 [])) [])) (fun z1 z2 z3 z4 z5 z6 z7 z8 z9 z10 z11 z12 z13 z14 z15 z16 z17 => G (.exit 0) (mkSt (skU 1 ((.list 34 t1) :: skU 3 ((.ptr 0 64 0 []) :: skU 1 ((.ptr 1 57 0 []) :: skU 1 ((.dmap 9 74 z1) :: (.int .i64 z2) :: skU 177 []))))) [(.box true 64 (.agg [(.sl 2 111 0 z3), (.bool z4), (.bool z5), (.int .i64 z6), (.int .i64 z7), (.int .i64 z8)])), (.box true 57 (.agg [(.ptr 0 64 0 []), (.mapr 3), (.agg [(.int .u64 z9), (.int .i64 z10), (.int .i64 z11), (.int .u32 z12)]), (.int .i64 z13), (.int .u64 z14), (.bool z15)])), (.row true 111 z16), (.map false 9 77 z17)]))) (funext fun t9 => funext fun t10 => funext fun ae => funext fun af => funext fun ag => funext fun ah => funext fun ai => funext fun aj => funext fun aa => funext fun ab => funext fun ac => funext fun ad => funext fun ak => funext fun al => funext fun am => funext fun x2 => funext fun x3 => R3_9_eq t1 G n t9 t10 ae af ag ah ai aj aa ab ac ad ak al am x2 x3))
theorem R3_9_eqK (t1 : List PV) (K : Ex → List PV → List Blk → Prop) (n : Nat) (t9 : List PV) (t10 : Int) (ae : Nat) (af : Bool) (ag : Bool) (ah : Int) (ai : Int) (aj : Int) (aa : Int) (ab : Int) (ac : Int) (ad : Int) (ak : Int) (al : Int) (am : Bool) (x2 : List PV) (x3 : List PV) : R3_9 t1 (fun z0 => K .ret (skU 4 ((.bool z0) :: skU 183 [])) []) (fun z1 z2 z3 z4 z5 z6 z7 z8 z9 z10 z11 z12 z13 z14 z15 z16 z17 => K (.exit 0) (skU 1 ((.list 34 t1) :: skU 3 ((.ptr 0 64 0 []) :: skU 1 ((.ptr 1 57 0 []) :: skU 1 ((.dmap 9 74 z1) :: (.int .i64 z2) :: skU 177 []))))) [(.box true 64 (.agg [(.sl 2 111 0 z3), (.bool z4), (.bool z5), (.int .i64 z6), (.int .i64 z7), (.int .i64 z8)])), (.box true 57 (.agg [(.ptr 0 64 0 []), (.mapr 3), (.agg [(.int .u64 z9), (.int .i64 z10), (.int .i64 z11), (.int .u32 z12)]), (.int .i64 z13), (.int .u64 z14), (.bool z15)])), (.row true 111 z16), (.map false 9 77 z17)]) n t9 t10 ae af ag ah ai aj aa ab ac ad ak al am x2 x3 = evLoop C3 (codeOf Try.f3 [1, 1, 1, 1, 1, 1, 0, 1, 0, 0]) n (mkSt (skU 1 ((.list 34 t1) :: skU 3 ((.ptr 0 64 0 []) :: skU 1 ((.ptr 1 57 0 []) :: skU 1 ((.dmap 9 74 t9) :: (.int .i64 t10) :: skU 177 []))))) [(.box true 64 (.agg [(.sl 2 111 0 ae), (.bool af), (.bool ag), (.int .i64 ah), (.int .i64 ai), (.int .i64 aj)])), (.box true 57 (.agg [(.ptr 0 64 0 []), (.mapr 3), (.agg [(.int .u64 aa), (.int .i64 ab), (.int .i64 ac), (.int .u32 ad)]), (.int .i64 ak), (.int .u64 al), (.bool am)])), (.row true 111 x2), (.map false 9 77 x3)]) (onSt K) := ((R3_9_eq t1 (onSt K) n t9 t10 ae af ag ah ai aj aa ab ac ad ak al am x2 x3).trans (by kernel_rfl)).symm
theorem Q3_9_ok : LoopOk C3 (codeOf Try.f3 [1, 1, 1, 1, 1, 1, 0, 1, 0, 0]) := LoopOk.of (l := Q3_9) (by kernel_rfl) (fun t bs K h0 => by
    unfold Q3_9 at h0
    obtain ⟨r1, rfl, h1⟩ := skipU_inv h0
    obtain ⟨t1, r3, rfl, h3⟩ := lI h1
    obtain ⟨r4, rfl, h4⟩ := skipU_inv h3
    obtain ⟨r6, rfl, h6⟩ := pI h4
    obtain ⟨r7, rfl, h7⟩ := skipU_inv h6
    obtain ⟨r9, rfl, h9⟩ := pI h7
    obtain ⟨r10, rfl, h10⟩ := skipU_inv h9
    obtain ⟨r11, r12, rfl, h11⟩ := consK_inv h10
    obtain ⟨t9, rfl, h12⟩ := dmapK_inv h11
    obtain ⟨t10, r14, rfl, h14⟩ := iI h12
    obtain ⟨r15, rfl, h15⟩ := skipU_inv h14
    obtain ⟨rfl, h16⟩ := nilK_inv h15
    obtain ⟨r19, r17, rfl, h19⟩ := bA h16
    obtain ⟨ae, r21, rfl, h21⟩ := zI h19
    obtain ⟨af, r23, rfl, h23⟩ := bI h21
    obtain ⟨ag, r25, rfl, h25⟩ := bI h23
    obtain ⟨ah, r27, rfl, h27⟩ := iI h25
    obtain ⟨ai, r29, rfl, h29⟩ := iI h27
    obtain ⟨aj, r31, rfl, h31⟩ := iI h29
    obtain ⟨rfl, h32⟩ := nilK_inv h31
    obtain ⟨r35, r33, rfl, h35⟩ := bA h32
    obtain ⟨r37, rfl, h37⟩ := pI h35
    obtain ⟨r39, rfl, h39⟩ := mI h37
    obtain ⟨r42, r41, rfl, h41⟩ := aI h39
    obtain ⟨aa, r44, rfl, h43⟩ := iI h41
    obtain ⟨ab, r46, rfl, h45⟩ := iI h43
    obtain ⟨ac, r48, rfl, h47⟩ := iI h45
    obtain ⟨ad, r50, rfl, h49⟩ := iI h47
    obtain ⟨rfl, h50⟩ := nilK_inv h49
    obtain ⟨ak, r52, rfl, h52⟩ := iI h50
    obtain ⟨al, r54, rfl, h54⟩ := iI h52
    obtain ⟨am, r56, rfl, h56⟩ := bI h54
    obtain ⟨rfl, h57⟩ := nilK_inv h56
    obtain ⟨x2, r58, rfl, h59⟩ := bR h57
    obtain ⟨x3, r60, rfl, h61⟩ := bM h59
    obtain ⟨rfl, h62⟩ := bNilK_inv h61
    have h := h62
    obtain ⟨n, hn⟩ := h
    refine ⟨n, ?_⟩
    rw [← R3_9_eqK t1 K n t9 t10 ae af ag ah ai aj aa ab ac ad ak al am x2 x3]
    exact hn)
theorem B3_eq (t0 : Int) (t1 : List PV) (K : List Blk → List PV → Prop) : evF C3 Try.f3 [] [(.int .u8 t0), (.list 34 t1)] K = (([] : List Blk).length = 0 ∧ B3 t0 t1 (fun z0 => K [] [(.bool z0)])) := by kernel_rfl
theorem W3_of (hT : AllSound Try.prog pvT pvG T3) : Sound Try.prog pvT pvG 3 W3 := Sound.weak (evF_sound (C := C3) (Base.of pvT_fits pvT_sized pvT_eq hT pvMixed pvIt_ok) Try.func3 (LoopsOk.of (C := C3) (fn := Try.f3) (l := [codeOf Try.f3 [1, 1, 1, 1, 1, 1, 0, 1, 0, 0], codeOf Try.f3 [1, 1, 1, 1, 1, 1, 0, 1, 0, 0, 1, 0, 0, 1, 0, 1, 0, 0]]) (r := [codeOf Try.f3 [1], codeOf Try.f3 [1, 1], codeOf Try.f3 [1, 0, 1], codeOf Try.f3 [1, 0, 1, 0, 1], codeOf Try.f3 [1, 1, 1], codeOf Try.f3 [1, 1, 1, 1], codeOf Try.f3 [1, 1, 1, 1, 1], codeOf Try.f3 [1, 1, 1, 1, 0, 1], codeOf Try.f3 [1, 1, 1, 1, 0, 1, 0, 1], codeOf Try.f3 [1, 1, 1, 1, 1, 1], codeOf Try.f3 [1, 1, 1, 1, 1, 1, 1], codeOf Try.f3 [1, 1, 1, 1, 1, 1, 0, 1], codeOf Try.f3 [1, 1, 1, 1, 1, 1, 0, 1, 0, 0, 1], codeOf Try.f3 [1, 1, 1, 1, 1, 1, 0, 1, 0, 0, 0, 1], codeOf Try.f3 [1, 1, 1, 1, 1, 1, 0, 1, 0, 0, 1, 1], codeOf Try.f3 [1, 1, 1, 1, 1, 1, 0, 1, 0, 0, 1, 0, 0, 1], codeOf Try.f3 [1, 1, 1, 1, 1, 1, 0, 1, 0, 0, 1, 0, 0, 0, 1], codeOf Try.f3 [1, 1, 1, 1, 1, 1, 0, 1, 0, 0, 1, 0, 0, 0, 1, 0, 1], codeOf Try.f3 [1, 1, 1, 1, 1, 1, 0, 1, 0, 0, 1, 0, 0, 1, 1], codeOf Try.f3 [1, 1, 1, 1, 1, 1, 0, 1, 0, 0, 1, 0, 0, 1, 0, 1], codeOf Try.f3 [1, 1, 1, 1, 1, 1, 0, 1, 0, 0, 1, 0, 0, 1, 0, 1, 0, 0, 1], codeOf Try.f3 [1, 1, 1, 1, 1, 1, 0, 1, 0, 0, 1, 0, 0, 1, 0, 1, 0, 0, 0, 1], codeOf Try.f3 [1, 1, 1, 1, 1, 1, 0, 1, 0, 0, 1, 0, 0, 1, 0, 1, 0, 0, 1, 1], codeOf Try.f3 [1, 1, 1, 1, 1, 1, 0, 1, 0, 0, 1, 0, 0, 1, 0, 1, 0, 0, 1, 0, 0, 1], codeOf Try.f3 [1, 1, 1, 1, 1, 1, 0, 1, 0, 0, 1, 0, 0, 1, 0, 1, 0, 0, 1, 0, 0, 1, 0, 1], codeOf Try.f3 [1, 1, 1, 1, 1, 1, 0, 1, 0, 0, 1, 0, 0, 1, 1, 1], codeOf Try.f3 [1, 1, 1, 1, 1, 1, 0, 1, 0, 0, 1, 0, 0, 1, 1, 0, 1], codeOf Try.f3 [1, 1, 1, 1, 1, 1, 0, 1, 0, 0, 1, 0, 0, 1, 1, 1, 1], codeOf Try.f3 [1, 1, 1, 1, 1, 1, 0, 1, 0, 0, 1, 0, 0, 1, 1, 1, 1, 1], codeOf Try.f3 [1, 1, 1, 1, 1, 1, 0, 1, 0, 0, 1, 0, 0, 1, 1, 1, 1, 1, 1], codeOf Try.f3 [1, 1, 1, 1, 1, 1, 0, 1, 0, 0, 1, 0, 0, 1, 1, 1, 1, 1, 0, 1], codeOf Try.f3 [1, 1, 1, 1, 1, 1, 0, 1, 0, 0, 1, 0, 0, 1, 1, 1, 1, 1, 1, 1], codeOf Try.f3 [1, 1, 1, 1, 1, 1, 0, 1, 0, 0, 1, 0, 0, 1, 1, 1, 1, 1, 1, 0, 1], codeOf Try.f3 [1, 1, 1, 1, 1, 1, 0, 1, 0, 0, 1, 0, 0, 1, 1, 1, 1, 1, 1, 0, 1, 0, 1], codeOf Try.f3 [1, 1, 1, 1, 1, 1, 0, 1, 0, 0, 1, 0, 0, 1, 1, 1, 1, 1, 1, 1, 1], codeOf Try.f3 [1, 1, 1, 1, 1, 1, 0, 1, 0, 0, 1, 0, 0, 1, 1, 1, 1, 1, 1, 1, 1, 1], codeOf Try.f3 [1, 1, 1, 1, 1, 1, 0, 1, 0, 0, 1, 0, 0, 1, 1, 1, 1, 1, 1, 1, 1, 0, 1], codeOf Try.f3 [1, 1, 1, 1, 1, 1, 0, 1, 0, 0, 1, 0, 0, 1, 1, 1, 1, 1, 1, 1, 1, 0, 1, 0, 1], codeOf Try.f3 [1, 1, 1, 1, 1, 1, 0, 1, 0, 0, 1, 0, 0, 1, 1, 1, 1, 1, 1, 1, 1, 1, 1], codeOf Try.f3 [1, 1, 1, 1, 1, 1, 0, 1, 0, 0, 1, 0, 0, 1, 1, 1, 1, 1, 1, 1, 1, 1, 1, 1], codeOf Try.f3 [1, 1, 1, 1, 1, 1, 0, 1, 0, 0, 1, 0, 0, 1, 1, 1, 1, 1, 1, 1, 1, 1, 1, 1, 1], codeOf Try.f3 [1, 1, 1, 1, 1, 1, 0, 1, 0, 0, 1, 0, 0, 1, 1, 1, 1, 1, 1, 1, 1, 1, 1, 1, 0, 1], codeOf Try.f3 [1, 1, 1, 1, 1, 1, 0, 1, 0, 0, 1, 0, 0, 1, 1, 1, 1, 1, 1, 1, 1, 1, 1, 1, 0, 1, 0, 1], codeOf Try.f3 [1, 1, 1, 1, 1, 1, 0, 1, 0, 0, 1, 0, 0, 1, 1, 1, 1, 1, 1, 1, 1, 1, 1, 1, 1, 1], codeOf Try.f3 [1, 1, 1, 1, 1, 1, 0, 1, 0, 0, 1, 0, 0, 1, 1, 1, 1, 1, 1, 1, 1, 1, 1, 1, 1, 0, 1], codeOf Try.f3 [1, 1, 1, 1, 1, 1, 1, 1]]) (g := []) (by kernel_rfl) (by kernel_rfl) (by kernel_rfl) ⟨Q3_9_ok, ⟨Q3_14_ok, trivial⟩⟩ ⟨(RestOk.none (by kernel_rfl)), ⟨(RestOk.none (by kernel_rfl)), ⟨(RestOk.none (by kernel_rfl)), ⟨(RestOk.none (by kernel_rfl)), ⟨(RestOk.none (by kernel_rfl)), ⟨(RestOk.none (by kernel_rfl)), ⟨(RestOk.none (by kernel_rfl)), ⟨(RestOk.none (by kernel_rfl)), ⟨(RestOk.none (by kernel_rfl)), ⟨(RestOk.none (by kernel_rfl)), ⟨(RestOk.none (by kernel_rfl)), ⟨(RestOk.none (by kernel_rfl)), ⟨(RestOk.none (by kernel_rfl)), ⟨(RestOk.none (by kernel_rfl)), ⟨(RestOk.none (by kernel_rfl)), ⟨(RestOk.none (by kernel_rfl)), ⟨(RestOk.none (by kernel_rfl)), ⟨(RestOk.none (by kernel_rfl)), ⟨(RestOk.none (by kernel_rfl)), ⟨(RestOk.none (by kernel_rfl)), ⟨(RestOk.none (by kernel_rfl)), ⟨(RestOk.none (by kernel_rfl)), ⟨(RestOk.none (by kernel_rfl)), ⟨(RestOk.none (by kernel_rfl)), ⟨(RestOk.none (by kernel_rfl)), ⟨Q3_20_ok, ⟨(RestOk.none (by kernel_rfl)), ⟨(RestOk.none (by kernel_rfl)), ⟨Q3_22_ok, ⟨Q3_24_ok, ⟨(RestOk.none (by kernel_rfl)), ⟨Q3_26_ok, ⟨(RestOk.none (by kernel_rfl)), ⟨(RestOk.none (by kernel_rfl)), ⟨(RestOk.none (by kernel_rfl)), ⟨(RestOk.none (by kernel_rfl)), ⟨(RestOk.none (by kernel_rfl)), ⟨(RestOk.none (by kernel_rfl)), ⟨(RestOk.none (by kernel_rfl)), ⟨(RestOk.none (by kernel_rfl)), ⟨Q3_33_ok, ⟨(RestOk.none (by kernel_rfl)), ⟨(RestOk.none (by kernel_rfl)), ⟨(RestOk.none (by kernel_rfl)), ⟨(RestOk.none (by kernel_rfl)), ⟨(RestOk.none (by kernel_rfl)), trivial⟩⟩⟩⟩⟩⟩⟩⟩⟩⟩⟩⟩⟩⟩⟩⟩⟩⟩⟩⟩⟩⟩⟩⟩⟩⟩⟩⟩⟩⟩⟩⟩⟩⟩⟩⟩⟩⟩⟩⟩⟩⟩⟩⟩⟩⟩ trivial) (evF_to (C := C3) (fun bs t K h0 => by
    unfold P3 at h0
    obtain ⟨t0, r2, rfl, h2⟩ := iI h0
    obtain ⟨t1, r4, rfl, h4⟩ := lI h2
    obtain ⟨rfl, h5⟩ := nilK_inv h4
    obtain ⟨rfl, h6⟩ := bNilK_inv h5
    have h := h6
    refine ⟨_, _, rfl, rfl, ?_⟩
    rw [B3_eq t0 t1 K]
    exact ⟨rfl, h⟩))) _
end Pv

namespace Pv
open Go Go.Proofs

theorem S7_7_eq (t22 : Int) (ae : Nat) (af : Bool) (ag : Bool) (ah : Int) (ai : Int) (aj : Int) (x1 : List PV) (aa : Int) (ab : Int) (ac : Int) (ad : Int) (ak : Int) (al : Int) (am : Bool) (x3 : List PV) (G : Ex → St → Prop) : evC C7 (codeOf Try.f7 [1, 1, 1, 0, 1, 0, 0]) (mkSt ((.ptr 0 64 0 []) :: skU 3 ((.ptr 2 57 0 []) :: skU 17 ((.int .i64 t22) :: skU 88 []))) [(.box true 64 (.agg [(.sl 1 111 0 ae), (.bool af), (.bool ag), (.int .i64 ah), (.int .i64 ai), (.int .i64 aj)])), (.row true 111 x1), (.box true 57 (.agg [(.ptr 0 64 0 []), (.mapr 3), (.agg [(.int .u64 aa), (.int .i64 ab), (.int .i64 ac), (.int .u32 ad)]), (.int .i64 ak), (.int .u64 al), (.bool am)])), (.map false 9 77 x3)]) G = S7_7 al am x3 t22 ae af ag ah ai aj x1 aa ab ac ad ak (fun t22 ae af ag ah ai aj x1 aa ab ac ad ak => G .normal (mkSt ((.ptr 0 64 0 []) :: skU 3 ((.ptr 2 57 0 []) :: skU 17 ((.int .i64 t22) :: skU 88 []))) [(.box true 64 (.agg [(.sl 1 111 0 ae), (.bool af), (.bool ag), (.int .i64 ah), (.int .i64 ai), (.int .i64 aj)])), (.row true 111 x1), (.box true 57 (.agg [(.ptr 0 64 0 []), (.mapr 3), (.agg [(.int .u64 aa), (.int .i64 ab), (.int .i64 ac), (.int .u32 ad)]), (.int .i64 ak), (.int .u64 al), (.bool am)])), (.map false 9 77 x3)])) (fun z0 z1 z2 z3 z4 z5 z6 z7 => G .ret (mkSt (skU 2 (.nilp :: (.int .i64 z0) :: skU 107 [])) [(.box true 64 (.agg [(.sl 1 111 0 z1), (.bool z2), (.bool z3), (.int .i64 z4), (.int .i64 z5), (.int .i64 z6)])), (.row true 111 z7)])) (fun z0 z1 z2 z3 z4 z5 z6 z7 z8 z9 z10 z11 z12 => G (.exit 1) (mkSt ((.ptr 0 64 0 []) :: skU 3 ((.ptr 2 57 0 []) :: skU 17 ((.int .i64 z0) :: skU 88 []))) [(.box true 64 (.agg [(.sl 1 111 0 z1), (.bool z2), (.bool z3), (.int .i64 z4), (.int .i64 z5), (.int .i64 z6)])), (.row true 111 z7), (.box true 57 (.agg [(.ptr 0 64 0 []), (.mapr 3), (.agg [(.int .u64 z8), (.int .i64 z9), (.int .i64 z10), (.int .u32 z11)]), (.int .i64 z12), (.int .u64 al), (.bool am)])), (.map false 9 77 x3)])) := by kernel_rfl
theorem R7_7_eq (af : Int) (ag : Bool) (x3 : List PV) (G : Ex → St → Prop) : ∀ (n : Nat) (t22 : Int) (ae : Nat) (ah : Bool) (ai : Bool) (aj : Int) (ak : Int) (al : Int) (x1 : List PV) (aa : Int) (ab : Int) (ac : Int) (ad : Int) (am : Int), evLoop C7 (codeOf Try.f7 [1, 1, 1, 0, 1, 0, 0]) n (mkSt ((.ptr 0 64 0 []) :: skU 3 ((.ptr 2 57 0 []) :: skU 17 ((.int .i64 t22) :: skU 88 []))) [(.box true 64 (.agg [(.sl 1 111 0 ae), (.bool ah), (.bool ai), (.int .i64 aj), (.int .i64 ak), (.int .i64 al)])), (.row true 111 x1), (.box true 57 (.agg [(.ptr 0 64 0 []), (.mapr 3), (.agg [(.int .u64 aa), (.int .i64 ab), (.int .i64 ac), (.int .u32 ad)]), (.int .i64 am), (.int .u64 af), (.bool ag)])), (.map false 9 77 x3)]) G = R7_7 af ag x3 (fun z0 z1 z2 z3 z4 z5 z6 z7 => G .ret (mkSt (skU 2 (.nilp :: (.int .i64 z0) :: skU 107 [])) [(.box true 64 (.agg [(.sl 1 111 0 z1), (.bool z2), (.bool z3), (.int .i64 z4), (.int .i64 z5), (.int .i64 z6)])), (.row true 111 z7)])) (fun z0 z1 z2 z3 z4 z5 z6 z7 z8 z9 z10 z11 z12 => G (.exit 1) (mkSt ((.ptr 0 64 0 []) :: skU 3 ((.ptr 2 57 0 []) :: skU 17 ((.int .i64 z0) :: skU 88 []))) [(.box true 64 (.agg [(.sl 1 111 0 z1), (.bool z2), (.bool z3), (.int .i64 z4), (.int .i64 z5), (.int .i64 z6)])), (.row true 111 z7), (.box true 57 (.agg [(.ptr 0 64 0 []), (.mapr 3), (.agg [(.int .u64 z8), (.int .i64 z9), (.int .i64 z10), (.int .u32 z11)]), (.int .i64 z12), (.int .u64 af), (.bool ag)])), (.map false 9 77 x3)])) n t22 ae ah ai aj ak al x1 aa ab ac ad am
  | 0, _, _, _, _, _, _, _, _, _, _, _, _, _ => rfl
  | n + 1, t22, ae, ah, ai, aj, ak, al, x1, aa, ab, ac, ad, am => (S7_7_eq t22 ae ah ai aj ak al x1 aa ab ac ad am af ag x3 (fun e s => match e with | .normal => evLoop C7 (codeOf Try.f7 [1, 1, 1, 0, 1, 0, 0]) n s G | .exit id => G (.exit id) s | .ret => G .ret s)).trans (congrArg (fun q => S7_7 af ag x3 t22 ae ah ai aj ak al x1 aa ab ac ad am q (fun z0 z1 z2 z3 z4 z5 z6 z7 => G .ret (mkSt (skU 2 (.nilp :: (.int .i64 z0) :: skU 107 [])) [(.box true 64 (.agg [(.sl 1 111 0 z1), (.bool z2), (.bool z3), (.int .i64 z4), (.int .i64 z5), (.int .i64 z6)])), (.row true 111 z7)])) (fun z0 z1 z2 z3 z4 z5 z6 z7 z8 z9 z10 z11 z12 => G (.exit 1) (mkSt ((.ptr 0 64 0 []) :: skU 3 ((.ptr 2 57 0 []) :: skU 17 ((.int .i64 z0) :: skU 88 []))) [(.box true 64 (.agg [(.sl 1 111 0 z1), (.bool z2), (.bool z3), (.int .i64 z4), (.int .i64 z5), (.int .i64 z6)])), (.row true 111 z7), (.box true 57 (.agg [(.ptr 0 64 0 []), (.mapr 3), (.agg [(.int .u64 z8), (.int .i64 z9), (.int .i64 z10), (.int .u32 z11)]), (.int .i64 z12), (.int .u64 af), (.bool ag)])), (.map false 9 77 x3)]))) (funext fun t22 => funext fun ae => funext fun ah => funext fun ai => funext fun aj => funext fun ak => funext fun al => funext fun x1 => funext fun aa => funext fun ab => funext fun ac => funext fun ad => funext fun am => R7_7_eq af ag x3 G n t22 ae ah ai aj ak al x1 aa ab ac ad am))
theorem R7_7_eqK (ae : Int) (af : Bool) (x3 : List PV) (K : Ex → List PV → List Blk → Prop) (n : Nat) (t22 : Int) (ag : Nat) (ah : Bool) (ai : Bool) (aj : Int) (ak : Int) (al : Int) (x1 : List PV) (aa : Int) (ab : Int) (ac : Int) (ad : Int) (am : Int) : R7_7 ae af x3 (fun z0 z1 z2 z3 z4 z5 z6 z7 => K .ret (skU 2 (.nilp :: (.int .i64 z0) :: skU 107 [])) [(.box true 64 (.agg [(.sl 1 111 0 z1), (.bool z2), (.bool z3), (.int .i64 z4), (.int .i64 z5), (.int .i64 z6)])), (.row true 111 z7)]) (fun z0 z1 z2 z3 z4 z5 z6 z7 z8 z9 z10 z11 z12 => K (.exit 1) ((.ptr 0 64 0 []) :: skU 3 ((.ptr 2 57 0 []) :: skU 17 ((.int .i64 z0) :: skU 88 []))) [(.box true 64 (.agg [(.sl 1 111 0 z1), (.bool z2), (.bool z3), (.int .i64 z4), (.int .i64 z5), (.int .i64 z6)])), (.row true 111 z7), (.box true 57 (.agg [(.ptr 0 64 0 []), (.mapr 3), (.agg [(.int .u64 z8), (.int .i64 z9), (.int .i64 z10), (.int .u32 z11)]), (.int .i64 z12), (.int .u64 ae), (.bool af)])), (.map false 9 77 x3)]) n t22 ag ah ai aj ak al x1 aa ab ac ad am = evLoop C7 (codeOf Try.f7 [1, 1, 1, 0, 1, 0, 0]) n (mkSt ((.ptr 0 64 0 []) :: skU 3 ((.ptr 2 57 0 []) :: skU 17 ((.int .i64 t22) :: skU 88 []))) [(.box true 64 (.agg [(.sl 1 111 0 ag), (.bool ah), (.bool ai), (.int .i64 aj), (.int .i64 ak), (.int .i64 al)])), (.row true 111 x1), (.box true 57 (.agg [(.ptr 0 64 0 []), (.mapr 3), (.agg [(.int .u64 aa), (.int .i64 ab), (.int .i64 ac), (.int .u32 ad)]), (.int .i64 am), (.int .u64 ae), (.bool af)])), (.map false 9 77 x3)]) (onSt K) := ((R7_7_eq ae af x3 (onSt K) n t22 ag ah ai aj ak al x1 aa ab ac ad am).trans (by kernel_rfl)).symm
theorem Q7_7_ok : LoopOk C7 (codeOf Try.f7 [1, 1, 1, 0, 1, 0, 0]) := LoopOk.of (l := Q7_7) (by kernel_rfl) (fun t bs K h0 => by
    unfold Q7_7 at h0
    obtain ⟨r2, rfl, h2⟩ := pI h0
    obtain ⟨r3, rfl, h3⟩ := skipU_inv h2
    obtain ⟨r5, rfl, h5⟩ := pI h3
    obtain ⟨r6, rfl, h6⟩ := skipU_inv h5
    obtain ⟨t22, r8, rfl, h8⟩ := iI h6
    obtain ⟨r9, rfl, h9⟩ := skipU_inv h8
    obtain ⟨rfl, h10⟩ := nilK_inv h9
    obtain ⟨r13, r11, rfl, h13⟩ := bA h10
    obtain ⟨ae, r15, rfl, h15⟩ := zI h13
    obtain ⟨af, r17, rfl, h17⟩ := bI h15
    obtain ⟨ag, r19, rfl, h19⟩ := bI h17
    obtain ⟨ah, r21, rfl, h21⟩ := iI h19
    obtain ⟨ai, r23, rfl, h23⟩ := iI h21
    obtain ⟨aj, r25, rfl, h25⟩ := iI h23
    obtain ⟨rfl, h26⟩ := nilK_inv h25
    obtain ⟨x1, r27, rfl, h28⟩ := bR h26
    obtain ⟨r31, r29, rfl, h31⟩ := bA h28
    obtain ⟨r33, rfl, h33⟩ := pI h31
    obtain ⟨r35, rfl, h35⟩ := mI h33
    obtain ⟨r38, r37, rfl, h37⟩ := aI h35
    obtain ⟨aa, r40, rfl, h39⟩ := iI h37
    obtain ⟨ab, r42, rfl, h41⟩ := iI h39
    obtain ⟨ac, r44, rfl, h43⟩ := iI h41
    obtain ⟨ad, r46, rfl, h45⟩ := iI h43
    obtain ⟨rfl, h46⟩ := nilK_inv h45
    obtain ⟨ak, r48, rfl, h48⟩ := iI h46
    obtain ⟨al, r50, rfl, h50⟩ := iI h48
    obtain ⟨am, r52, rfl, h52⟩ := bI h50
    obtain ⟨rfl, h53⟩ := nilK_inv h52
    obtain ⟨x3, r54, rfl, h55⟩ := bM h53
    obtain ⟨rfl, h56⟩ := bNilK_inv h55
    have h := h56
    obtain ⟨n, hn⟩ := h
    refine ⟨n, ?_⟩
    rw [← R7_7_eqK al am x3 K n t22 ae af ag ah ai aj x1 aa ab ac ad ak]
    exact hn)
theorem J7_24_eq (t8 : List PV) (aa : Nat) (af : Bool) (ag : Bool) (ah : Int) (ai : Int) (aj : Int) (x1 : List PV) (ab : Int) (ac : Int) (ad : Int) (ae : Int) (ak : Int) (al : Int) (am : Bool) (x3 : List PV) (K : Ex → List PV → List Blk → Prop) : J7_24 t8 aa af ag ah ai aj x1 ab ac ad ae ak al am x3 (K .ret (skU 2 (.nilp :: (.int .i64 4) :: skU 107 [])) [(.box true 64 (.agg [(.sl 1 111 0 aa), (.bool af), (.bool ag), (.int .i64 ah), (.int .i64 ai), (.int .i64 aj)])), (.row true 111 x1)]) (fun z15 => K .ret (skU 2 ((.ptr 2 57 0 []) :: (.int .i64 0) :: skU 107 [])) [(.box true 64 (.agg [(.sl 1 111 0 aa), (.bool af), (.bool ag), (.int .i64 ah), (.int .i64 ai), (.int .i64 aj)])), (.row true 111 x1), (.box true 57 (.agg [(.ptr 0 64 0 []), (.mapr 3), (.agg [(.int .u64 ab), (.int .i64 ac), (.int .i64 ad), (.int .u32 ae)]), (.int .i64 ak), (.int .u64 al), (.bool am)])), (.map false 9 77 z15)]) = evC C7 (codeOf Try.f7 [1, 1, 1, 1, 1, 1, 1, 1, 1, 1]) (mkSt (skU 4 ((.ptr 2 57 0 []) :: skU 3 ((.list 5 t8) :: skU 102 []))) [(.box true 64 (.agg [(.sl 1 111 0 aa), (.bool af), (.bool ag), (.int .i64 ah), (.int .i64 ai), (.int .i64 aj)])), (.row true 111 x1), (.box true 57 (.agg [(.ptr 0 64 0 []), (.mapr 3), (.agg [(.int .u64 ab), (.int .i64 ac), (.int .i64 ad), (.int .u32 ae)]), (.int .i64 ak), (.int .u64 al), (.bool am)])), (.map false 9 77 x3)]) (onSt K) := by kernel_rfl
theorem Q7_24_ok : RestOk C7 (codeOf Try.f7 [1, 1, 1, 1, 1, 1, 1, 1, 1, 1]) := RestOk.to (l := Q7_24) (by kernel_rfl) (by
    intro t bs K h0
    unfold Q7_24 at h0
    obtain ⟨r1, rfl, h1⟩ := skipU_inv h0
    obtain ⟨r3, rfl, h3⟩ := pI h1
    obtain ⟨r4, rfl, h4⟩ := skipU_inv h3
    obtain ⟨t8, r6, rfl, h6⟩ := lI h4
    obtain ⟨r7, rfl, h7⟩ := skipU_inv h6
    obtain ⟨rfl, h8⟩ := nilK_inv h7
    obtain ⟨r11, r9, rfl, h11⟩ := bA h8
    obtain ⟨ae, r13, rfl, h13⟩ := zI h11
    obtain ⟨af, r15, rfl, h15⟩ := bI h13
    obtain ⟨ag, r17, rfl, h17⟩ := bI h15
    obtain ⟨ah, r19, rfl, h19⟩ := iI h17
    obtain ⟨ai, r21, rfl, h21⟩ := iI h19
    obtain ⟨aj, r23, rfl, h23⟩ := iI h21
    obtain ⟨rfl, h24⟩ := nilK_inv h23
    obtain ⟨x1, r25, rfl, h26⟩ := bR h24
    obtain ⟨r29, r27, rfl, h29⟩ := bA h26
    obtain ⟨r31, rfl, h31⟩ := pI h29
    obtain ⟨r33, rfl, h33⟩ := mI h31
    obtain ⟨r36, r35, rfl, h35⟩ := aI h33
    obtain ⟨aa, r38, rfl, h37⟩ := iI h35
    obtain ⟨ab, r40, rfl, h39⟩ := iI h37
    obtain ⟨ac, r42, rfl, h41⟩ := iI h39
    obtain ⟨ad, r44, rfl, h43⟩ := iI h41
    obtain ⟨rfl, h44⟩ := nilK_inv h43
    obtain ⟨ak, r46, rfl, h46⟩ := iI h44
    obtain ⟨al, r48, rfl, h48⟩ := iI h46
    obtain ⟨am, r50, rfl, h50⟩ := bI h48
    obtain ⟨rfl, h51⟩ := nilK_inv h50
    obtain ⟨x3, r52, rfl, h53⟩ := bM h51
    obtain ⟨rfl, h54⟩ := bNilK_inv h53
    have h := h54
    refine ⟨_, _, rfl, rfl, ?_⟩
    rw [← J7_24_eq t8 ae af ag ah ai aj x1 aa ab ac ad ak al am x3 K]
    exact h)
theorem J7_19_eq (t8 : List PV) (t9 : Int) (aa : Nat) (af : Bool) (ag : Bool) (ah : Int) (ai : Int) (aj : Int) (x1 : List PV) (ab : Int) (ac : Int) (ad : Int) (ae : Int) (ak : Int) (al : Int) (am : Bool) (x3 : List PV) (K : Ex → List PV → List Blk → Prop) : J7_19 t8 t9 aa af ag ah ai aj x1 ab ac ad ae ak al am x3 (fun z0 => K .ret (skU 2 (.nilp :: (.int .i64 z0) :: skU 107 [])) [(.box true 64 (.agg [(.sl 1 111 0 aa), (.bool af), (.bool ag), (.int .i64 ah), (.int .i64 ai), (.int .i64 aj)])), (.row true 111 x1)]) (fun z15 => K .ret (skU 2 ((.ptr 2 57 0 []) :: (.int .i64 0) :: skU 107 [])) [(.box true 64 (.agg [(.sl 1 111 0 aa), (.bool af), (.bool ag), (.int .i64 ah), (.int .i64 ai), (.int .i64 aj)])), (.row true 111 x1), (.box true 57 (.agg [(.ptr 0 64 0 []), (.mapr 3), (.agg [(.int .u64 ab), (.int .i64 ac), (.int .i64 ad), (.int .u32 ae)]), (.int .i64 ak), (.int .u64 al), (.bool am)])), (.map false 9 77 z15)]) = evC C7 (codeOf Try.f7 [1, 1, 1, 1, 1, 1, 1]) (mkSt (skU 4 ((.ptr 2 57 0 []) :: skU 3 ((.list 5 t8) :: (.int .i64 t9) :: skU 101 []))) [(.box true 64 (.agg [(.sl 1 111 0 aa), (.bool af), (.bool ag), (.int .i64 ah), (.int .i64 ai), (.int .i64 aj)])), (.row true 111 x1), (.box true 57 (.agg [(.ptr 0 64 0 []), (.mapr 3), (.agg [(.int .u64 ab), (.int .i64 ac), (.int .i64 ad), (.int .u32 ae)]), (.int .i64 ak), (.int .u64 al), (.bool am)])), (.map false 9 77 x3)]) (onSt K) := by kernel_rfl
theorem Q7_19_ok : RestOk C7 (codeOf Try.f7 [1, 1, 1, 1, 1, 1, 1]) := RestOk.to (l := Q7_19) (by kernel_rfl) (by
    intro t bs K h0
    unfold Q7_19 at h0
    obtain ⟨r1, rfl, h1⟩ := skipU_inv h0
    obtain ⟨r3, rfl, h3⟩ := pI h1
    obtain ⟨r4, rfl, h4⟩ := skipU_inv h3
    obtain ⟨t8, r6, rfl, h6⟩ := lI h4
    obtain ⟨t9, r8, rfl, h8⟩ := iI h6
    obtain ⟨r9, rfl, h9⟩ := skipU_inv h8
    obtain ⟨rfl, h10⟩ := nilK_inv h9
    obtain ⟨r13, r11, rfl, h13⟩ := bA h10
    obtain ⟨ae, r15, rfl, h15⟩ := zI h13
    obtain ⟨af, r17, rfl, h17⟩ := bI h15
    obtain ⟨ag, r19, rfl, h19⟩ := bI h17
    obtain ⟨ah, r21, rfl, h21⟩ := iI h19
    obtain ⟨ai, r23, rfl, h23⟩ := iI h21
    obtain ⟨aj, r25, rfl, h25⟩ := iI h23
    obtain ⟨rfl, h26⟩ := nilK_inv h25
    obtain ⟨x1, r27, rfl, h28⟩ := bR h26
    obtain ⟨r31, r29, rfl, h31⟩ := bA h28
    obtain ⟨r33, rfl, h33⟩ := pI h31
    obtain ⟨r35, rfl, h35⟩ := mI h33
    obtain ⟨r38, r37, rfl, h37⟩ := aI h35
    obtain ⟨aa, r40, rfl, h39⟩ := iI h37
    obtain ⟨ab, r42, rfl, h41⟩ := iI h39
    obtain ⟨ac, r44, rfl, h43⟩ := iI h41
    obtain ⟨ad, r46, rfl, h45⟩ := iI h43
    obtain ⟨rfl, h46⟩ := nilK_inv h45
    obtain ⟨ak, r48, rfl, h48⟩ := iI h46
    obtain ⟨al, r50, rfl, h50⟩ := iI h48
    obtain ⟨am, r52, rfl, h52⟩ := bI h50
    obtain ⟨rfl, h53⟩ := nilK_inv h52
    obtain ⟨x3, r54, rfl, h55⟩ := bM h53
    obtain ⟨rfl, h56⟩ := bNilK_inv h55
    have h := h56
    refine ⟨_, _, rfl, rfl, ?_⟩
    rw [← J7_19_eq t8 t9 ae af ag ah ai aj x1 aa ab ac ad ak al am x3 K]
    exact h)
theorem B7_eq (dn : Nat) (off : Bool) (cut : Bool) (whole : Int) (kept : Int) (writes : Int) (secs : List PV) (K : List Blk → List PV → Prop) : evF C7 Try.f7 [(.box true 64 (.agg [(.sl 1 111 0 dn), (.bool off), (.bool cut), (.int .i64 whole), (.int .i64 kept), (.int .i64 writes)])), (.row true 111 secs)] [(.ptr 0 64 0 [])] K = (([(.box true 64 (.agg [(.sl 1 111 0 dn), (.bool off), (.bool cut), (.int .i64 whole), (.int .i64 kept), (.int .i64 writes)])), (.row true 111 secs)] : List Blk).length = 2 ∧ B7 dn off cut whole kept writes secs (fun z0 z1 z2 z3 z4 z5 z6 z7 => K [(.box true 64 (.agg [(.sl 1 111 0 z1), (.bool z2), (.bool z3), (.int .i64 z4), (.int .i64 z5), (.int .i64 z6)])), (.row true 111 z7)] [.nilp, (.int .i64 z0)]) (fun z0 z1 z2 z3 z4 z5 z6 z7 z8 z9 z10 z11 z12 z13 => K [(.box true 64 (.agg [(.sl 1 111 0 z0), (.bool z1), (.bool z2), (.int .i64 z3), (.int .i64 z4), (.int .i64 z5)])), (.row true 111 z6), (.box true 57 (.agg [(.ptr 0 64 0 []), (.mapr 3), (.agg [(.int .u64 z7), (.int .i64 z8), (.int .i64 z9), (.int .u32 z10)]), (.int .i64 z11), (.int .u64 z12), (.bool false)])), (.map false 9 77 z13)] [(.ptr 2 57 0 []), (.int .i64 0)])) := by kernel_rfl
theorem W7_of (hT : AllSound Try.prog pvT pvG T7) : Sound Try.prog pvT pvG 7 W7 := Sound.weak (evF_sound (C := C7) (Base.of pvT_fits pvT_sized pvT_eq hT pvMixed pvIt_ok) Try.func7 (LoopsOk.of (C := C7) (fn := Try.f7) (l := [codeOf Try.f7 [1, 1, 1, 0, 1, 0, 0]]) (r := [codeOf Try.f7 [1], codeOf Try.f7 [1, 1], codeOf Try.f7 [1, 0, 0, 1], codeOf Try.f7 [1, 0, 0, 1, 0, 1], codeOf Try.f7 [1, 0, 0, 1, 1, 1], codeOf Try.f7 [1, 0, 0, 1, 1, 1, 0, 1], codeOf Try.f7 [1, 1, 1], codeOf Try.f7 [1, 1, 1, 1], codeOf Try.f7 [1, 1, 1, 0, 1], codeOf Try.f7 [1, 1, 1, 0, 1, 0, 0, 1], codeOf Try.f7 [1, 1, 1, 0, 1, 0, 0, 1, 1], codeOf Try.f7 [1, 1, 1, 0, 1, 0, 0, 1, 1, 1], codeOf Try.f7 [1, 1, 1, 0, 1, 0, 0, 1, 1, 0, 0, 1], codeOf Try.f7 [1, 1, 1, 0, 1, 0, 0, 1, 1, 0, 0, 1, 1], codeOf Try.f7 [1, 1, 1, 0, 1, 0, 0, 1, 1, 0, 0, 1, 1, 1], codeOf Try.f7 [1, 1, 1, 0, 1, 0, 0, 1, 1, 0, 0, 1, 1, 0, 1], codeOf Try.f7 [1, 1, 1, 0, 1, 0, 0, 1, 1, 0, 0, 1, 1, 0, 1, 0, 1], codeOf Try.f7 [1, 1, 1, 0, 1, 0, 0, 1, 1, 0, 0, 1, 1, 1, 1], codeOf Try.f7 [1, 1, 1, 1, 1], codeOf Try.f7 [1, 1, 1, 1, 1, 1], codeOf Try.f7 [1, 1, 1, 1, 1, 0, 1], codeOf Try.f7 [1, 1, 1, 1, 1, 0, 1, 0, 1], codeOf Try.f7 [1, 1, 1, 1, 1, 1, 1], codeOf Try.f7 [1, 1, 1, 1, 1, 1, 1, 1], codeOf Try.f7 [1, 1, 1, 1, 1, 1, 1, 0, 1], codeOf Try.f7 [1, 1, 1, 1, 1, 1, 1, 0, 1, 0, 1], codeOf Try.f7 [1, 1, 1, 1, 1, 1, 1, 1, 1], codeOf Try.f7 [1, 1, 1, 1, 1, 1, 1, 1, 1, 1], codeOf Try.f7 [1, 1, 1, 1, 1, 1, 1, 1, 1, 0, 1], codeOf Try.f7 [1, 1, 1, 1, 1, 1, 1, 1, 1, 0, 1, 0, 1], codeOf Try.f7 [1, 1, 1, 1, 1, 1, 1, 1, 1, 1, 1], codeOf Try.f7 [1, 1, 1, 1, 1, 1, 1, 1, 1, 1, 0, 1], codeOf Try.f7 [1, 1, 1, 1, 1, 1, 1, 1, 1, 1, 0, 1, 1], codeOf Try.f7 [1, 1, 1, 1, 1, 1, 1, 1, 1, 1, 0, 1, 1, 0, 1], codeOf Try.f7 [1, 1, 1, 1, 1, 1, 1, 1, 1, 1, 1, 1]]) (g := []) (by kernel_rfl) (by kernel_rfl) (by kernel_rfl) ⟨Q7_7_ok, trivial⟩ ⟨(RestOk.none (by kernel_rfl)), ⟨(RestOk.none (by kernel_rfl)), ⟨(RestOk.none (by kernel_rfl)), ⟨(RestOk.none (by kernel_rfl)), ⟨(RestOk.none (by kernel_rfl)), ⟨(RestOk.none (by kernel_rfl)), ⟨(RestOk.none (by kernel_rfl)), ⟨(RestOk.none (by kernel_rfl)), ⟨(RestOk.none (by kernel_rfl)), ⟨(RestOk.none (by kernel_rfl)), ⟨(RestOk.none (by kernel_rfl)), ⟨(RestOk.none (by kernel_rfl)), ⟨(RestOk.none (by kernel_rfl)), ⟨(RestOk.none (by kernel_rfl)), ⟨(RestOk.none (by kernel_rfl)), ⟨(RestOk.none (by kernel_rfl)), ⟨(RestOk.none (by kernel_rfl)), ⟨(RestOk.none (by kernel_rfl)), ⟨(RestOk.none (by kernel_rfl)), ⟨(RestOk.none (by kernel_rfl)), ⟨(RestOk.none (by kernel_rfl)), ⟨(RestOk.none (by kernel_rfl)), ⟨Q7_19_ok, ⟨(RestOk.none (by kernel_rfl)), ⟨(RestOk.none (by kernel_rfl)), ⟨(RestOk.none (by kernel_rfl)), ⟨(RestOk.none (by kernel_rfl)), ⟨Q7_24_ok, ⟨(RestOk.none (by kernel_rfl)), ⟨(RestOk.none (by kernel_rfl)), ⟨(RestOk.none (by kernel_rfl)), ⟨(RestOk.none (by kernel_rfl)), ⟨(RestOk.none (by kernel_rfl)), ⟨(RestOk.none (by kernel_rfl)), ⟨(RestOk.none (by kernel_rfl)), trivial⟩⟩⟩⟩⟩⟩⟩⟩⟩⟩⟩⟩⟩⟩⟩⟩⟩⟩⟩⟩⟩⟩⟩⟩⟩⟩⟩⟩⟩⟩⟩⟩⟩⟩⟩ trivial) (evF_to (C := C7) (fun bs t K h0 => by
    unfold P7 at h0
    obtain ⟨r2, rfl, h2⟩ := pI h0
    obtain ⟨rfl, h3⟩ := nilK_inv h2
    obtain ⟨r6, r4, rfl, h6⟩ := bA h3
    obtain ⟨dn, r8, rfl, h8⟩ := zI h6
    obtain ⟨off, r10, rfl, h10⟩ := bI h8
    obtain ⟨cut, r12, rfl, h12⟩ := bI h10
    obtain ⟨whole, r14, rfl, h14⟩ := iI h12
    obtain ⟨kept, r16, rfl, h16⟩ := iI h14
    obtain ⟨writes, r18, rfl, h18⟩ := iI h16
    obtain ⟨rfl, h19⟩ := nilK_inv h18
    obtain ⟨secs, r20, rfl, h21⟩ := bR h19
    obtain ⟨rfl, h22⟩ := bNilK_inv h21
    have h := h22
    refine ⟨_, _, rfl, rfl, ?_⟩
    rw [B7_eq dn off cut whole kept writes secs K]
    exact ⟨rfl, h⟩))) _
end Pv

namespace Pv
open Go Go.Proofs

theorem J45_7_eq (aa : Nat) (ab : Bool) (ac : Bool) (ad : Int) (ae : Int) (af : Int) (x1 : List PV) (x3 : Int) (x4 : Int) (K : Ex → List PV → List Blk → Prop) : J45_7 aa ab ac ad ae af x1 x3 x4 (fun z7 z8 => K .normal (skU 29 []) [(.box true 64 (.agg [(.sl 1 111 0 aa), (.bool ab), (.bool ac), (.int .i64 ad), (.int .i64 ae), (.int .i64 af)])), (.row true 111 x1), (.box true 24 (.ptr 0 64 0 [])), (.box true 3 (.int .i64 z7)), (.box true 3 (.int .i64 z8))]) = evC C45r3 (codeOf Try.f45 [1, 1, 0, 1, 0, 1, 1, 1, 1]) (mkSt (skU 5 ((.ptr 3 3 0 []) :: skU 1 ((.ptr 4 3 0 []) :: skU 21 []))) [(.box true 64 (.agg [(.sl 1 111 0 aa), (.bool ab), (.bool ac), (.int .i64 ad), (.int .i64 ae), (.int .i64 af)])), (.row true 111 x1), (.box true 24 (.ptr 0 64 0 [])), (.box true 3 (.int .i64 x3)), (.box true 3 (.int .i64 x4))]) (onSt K) := by kernel_rfl
theorem Q45_7_ok : RestOk C45r3 (codeOf Try.f45 [1, 1, 0, 1, 0, 1, 1, 1, 1]) := RestOk.to (l := Q45_7) (by kernel_rfl) (by
    intro t bs K h0
    unfold Q45_7 at h0
    obtain ⟨r1, rfl, h1⟩ := skipU_inv h0
    obtain ⟨r3, rfl, h3⟩ := pI h1
    obtain ⟨r4, rfl, h4⟩ := skipU_inv h3
    obtain ⟨r6, rfl, h6⟩ := pI h4
    obtain ⟨r7, rfl, h7⟩ := skipU_inv h6
    obtain ⟨rfl, h8⟩ := nilK_inv h7
    obtain ⟨r11, r9, rfl, h11⟩ := bA h8
    obtain ⟨aa, r13, rfl, h13⟩ := zI h11
    obtain ⟨ab, r15, rfl, h15⟩ := bI h13
    obtain ⟨ac, r17, rfl, h17⟩ := bI h15
    obtain ⟨ad, r19, rfl, h19⟩ := iI h17
    obtain ⟨ae, r21, rfl, h21⟩ := iI h19
    obtain ⟨af, r23, rfl, h23⟩ := iI h21
    obtain ⟨rfl, h24⟩ := nilK_inv h23
    obtain ⟨x1, r25, rfl, h26⟩ := bR h24
    obtain ⟨r28, r27, rfl, h28⟩ := bB h26
    obtain ⟨rfl, h29⟩ := ptrK_inv h28
    obtain ⟨r31, r30, rfl, h31⟩ := bB h29
    obtain ⟨x3, rfl, h32⟩ := asIntK_inv h31
    obtain ⟨r34, r33, rfl, h34⟩ := bB h32
    obtain ⟨x4, rfl, h35⟩ := asIntK_inv h34
    obtain ⟨rfl, h36⟩ := bNilK_inv h35
    have h := h36
    refine ⟨_, _, rfl, rfl, ?_⟩
    rw [← J45_7_eq aa ab ac ad ae af x1 x3 x4 K]
    exact h)
theorem S45_3_eq (aa : Nat) (ab : Bool) (ac : Bool) (ad : Int) (ae : Int) (af : Int) (x1 : List PV) (x3 : Int) (x4 : Int) (el : List PV) (xs : List (List PV)) (G : Ex → St → Prop) : evRange C45r3 [12] (codeOf Try.f45 [1, 1, 0, 0]) (codeOf Try.f45 [1, 1, 0, 1]) (skU 4 ((.ptr 2 24 0 []) :: (.ptr 3 3 0 []) :: skU 1 ((.ptr 4 3 0 []) :: skU 21 []))) ((fun (el : List PV) => [(.list 5 el)]) el :: xs) (hp [(.box true 64 (.agg [(.sl 1 111 0 aa), (.bool ab), (.bool ac), (.int .i64 ad), (.int .i64 ae), (.int .i64 af)])), (.row true 111 x1), (.box true 24 (.ptr 0 64 0 [])), (.box true 3 (.int .i64 x3)), (.box true 3 (.int .i64 x4))]) 5 G = S45_3 aa ab ac ad ae af x1 x3 x4 el (fun x1 x3 x4 => evRange C45r3 [12] (codeOf Try.f45 [1, 1, 0, 0]) (codeOf Try.f45 [1, 1, 0, 1]) (skU 4 ((.ptr 2 24 0 []) :: (.ptr 3 3 0 []) :: skU 1 ((.ptr 4 3 0 []) :: skU 21 []))) xs (hp [(.box true 64 (.agg [(.sl 1 111 0 aa), (.bool ab), (.bool ac), (.int .i64 ad), (.int .i64 ae), (.int .i64 af)])), (.row true 111 x1), (.box true 24 (.ptr 0 64 0 [])), (.box true 3 (.int .i64 x3)), (.box true 3 (.int .i64 x4))]) 5 G) (fun z6 z7 z8 => G .normal (mkSt (skU 4 ((.ptr 2 24 0 []) :: (.ptr 3 3 0 []) :: skU 1 ((.ptr 4 3 0 []) :: skU 21 []))) [(.box true 64 (.agg [(.sl 1 111 0 aa), (.bool ab), (.bool ac), (.int .i64 ad), (.int .i64 ae), (.int .i64 af)])), (.row true 111 z6), (.box true 24 (.ptr 0 64 0 [])), (.box true 3 (.int .i64 z7)), (.box true 3 (.int .i64 z8))])) (fun z6 z7 z8 => G .ret (mkSt (skU 4 ((.ptr 2 24 0 []) :: (.ptr 3 3 0 []) :: skU 1 ((.ptr 4 3 0 []) :: skU 21 []))) [(.box true 64 (.agg [(.sl 1 111 0 aa), (.bool ab), (.bool ac), (.int .i64 ad), (.int .i64 ae), (.int .i64 af)])), (.row true 111 z6), (.box true 24 (.ptr 0 64 0 [])), (.box true 3 (.int .i64 z7)), (.box true 3 (.int .i64 z8))])) := by kernel_rfl
theorem G45_3_eq (aa : Nat) (ab : Bool) (ac : Bool) (ad : Int) (ae : Int) (af : Int) (G : Ex → St → Prop) : ∀ (r : List (List PV)) (x1 : List PV) (x3 : Int) (x4 : Int), evRange C45r3 [12] (codeOf Try.f45 [1, 1, 0, 0]) (codeOf Try.f45 [1, 1, 0, 1]) (skU 4 ((.ptr 2 24 0 []) :: (.ptr 3 3 0 []) :: skU 1 ((.ptr 4 3 0 []) :: skU 21 []))) (List.map (fun (el : List PV) => [(.list 5 el)]) r) (hp [(.box true 64 (.agg [(.sl 1 111 0 aa), (.bool ab), (.bool ac), (.int .i64 ad), (.int .i64 ae), (.int .i64 af)])), (.row true 111 x1), (.box true 24 (.ptr 0 64 0 [])), (.box true 3 (.int .i64 x3)), (.box true 3 (.int .i64 x4))]) 5 G = G45_3 aa ab ac ad ae af (fun z6 z7 z8 => G .normal (mkSt (skU 4 ((.ptr 2 24 0 []) :: (.ptr 3 3 0 []) :: skU 1 ((.ptr 4 3 0 []) :: skU 21 []))) [(.box true 64 (.agg [(.sl 1 111 0 aa), (.bool ab), (.bool ac), (.int .i64 ad), (.int .i64 ae), (.int .i64 af)])), (.row true 111 z6), (.box true 24 (.ptr 0 64 0 [])), (.box true 3 (.int .i64 z7)), (.box true 3 (.int .i64 z8))])) (fun z6 z7 z8 => G .ret (mkSt (skU 4 ((.ptr 2 24 0 []) :: (.ptr 3 3 0 []) :: skU 1 ((.ptr 4 3 0 []) :: skU 21 []))) [(.box true 64 (.agg [(.sl 1 111 0 aa), (.bool ab), (.bool ac), (.int .i64 ad), (.int .i64 ae), (.int .i64 af)])), (.row true 111 z6), (.box true 24 (.ptr 0 64 0 [])), (.box true 3 (.int .i64 z7)), (.box true 3 (.int .i64 z8))])) r x1 x3 x4
  | [], _, _, _ => rfl
  | el :: r, x1, x3, x4 => (S45_3_eq aa ab ac ad ae af x1 x3 x4 el (List.map (fun (el : List PV) => [(.list 5 el)]) r) G).trans (congrArg (fun q => S45_3 aa ab ac ad ae af x1 x3 x4 el q (fun z6 z7 z8 => G .normal (mkSt (skU 4 ((.ptr 2 24 0 []) :: (.ptr 3 3 0 []) :: skU 1 ((.ptr 4 3 0 []) :: skU 21 []))) [(.box true 64 (.agg [(.sl 1 111 0 aa), (.bool ab), (.bool ac), (.int .i64 ad), (.int .i64 ae), (.int .i64 af)])), (.row true 111 z6), (.box true 24 (.ptr 0 64 0 [])), (.box true 3 (.int .i64 z7)), (.box true 3 (.int .i64 z8))])) (fun z6 z7 z8 => G .ret (mkSt (skU 4 ((.ptr 2 24 0 []) :: (.ptr 3 3 0 []) :: skU 1 ((.ptr 4 3 0 []) :: skU 21 []))) [(.box true 64 (.agg [(.sl 1 111 0 aa), (.bool ab), (.bool ac), (.int .i64 ad), (.int .i64 ae), (.int .i64 af)])), (.row true 111 z6), (.box true 24 (.ptr 0 64 0 [])), (.box true 3 (.int .i64 z7)), (.box true 3 (.int .i64 z8))]))) (funext fun x1 => funext fun x3 => funext fun x4 => G45_3_eq aa ab ac ad ae af G r x1 x3 x4))
theorem G45_3_eqK (aa : Nat) (ab : Bool) (ac : Bool) (ad : Int) (ae : Int) (af : Int) (K : Ex → List PV → List Blk → Prop) (r : List (List PV)) (x1 : List PV) (x3 : Int) (x4 : Int) : G45_3 aa ab ac ad ae af (fun z6 z7 z8 => K .normal (skU 4 ((.ptr 2 24 0 []) :: (.ptr 3 3 0 []) :: skU 1 ((.ptr 4 3 0 []) :: skU 21 []))) [(.box true 64 (.agg [(.sl 1 111 0 aa), (.bool ab), (.bool ac), (.int .i64 ad), (.int .i64 ae), (.int .i64 af)])), (.row true 111 z6), (.box true 24 (.ptr 0 64 0 [])), (.box true 3 (.int .i64 z7)), (.box true 3 (.int .i64 z8))]) (fun z6 z7 z8 => K .ret (skU 4 ((.ptr 2 24 0 []) :: (.ptr 3 3 0 []) :: skU 1 ((.ptr 4 3 0 []) :: skU 21 []))) [(.box true 64 (.agg [(.sl 1 111 0 aa), (.bool ab), (.bool ac), (.int .i64 ad), (.int .i64 ae), (.int .i64 af)])), (.row true 111 z6), (.box true 24 (.ptr 0 64 0 [])), (.box true 3 (.int .i64 z7)), (.box true 3 (.int .i64 z8))]) r x1 x3 x4 = evRange C45r3 [12] (codeOf Try.f45 [1, 1, 0, 0]) (codeOf Try.f45 [1, 1, 0, 1]) (skU 4 ((.ptr 2 24 0 []) :: (.ptr 3 3 0 []) :: skU 1 ((.ptr 4 3 0 []) :: skU 21 []))) (List.map (fun (el : List PV) => [(.list 5 el)]) r) (hp [(.box true 64 (.agg [(.sl 1 111 0 aa), (.bool ab), (.bool ac), (.int .i64 ad), (.int .i64 ae), (.int .i64 af)])), (.row true 111 x1), (.box true 24 (.ptr 0 64 0 [])), (.box true 3 (.int .i64 x3)), (.box true 3 (.int .i64 x4))]) 5 (onSt K) := ((G45_3_eq aa ab ac ad ae af (onSt K) r x1 x3 x4).trans (by kernel_rfl)).symm
theorem H45_3_ok : RangeOk C45 ((#[12] : Array Nat), (codeOf Try.f45 [1, 1, 0, 0]), (codeOf Try.f45 [1, 1, 0, 1])) := RangeOk.to (pins := [2, 3, 4]) (l := Q45_3) (by kernel_rfl) (fun xs t bs K h0 => by
    unfold Q45_3 at h0
    obtain ⟨r1, rfl, h1⟩ := skipU_inv h0
    obtain ⟨r3, rfl, h3⟩ := pI h1
    obtain ⟨r5, rfl, h5⟩ := pI h3
    obtain ⟨r6, rfl, h6⟩ := skipU_inv h5
    obtain ⟨r8, rfl, h8⟩ := pI h6
    obtain ⟨r9, rfl, h9⟩ := skipU_inv h8
    obtain ⟨rfl, h10⟩ := nilK_inv h9
    obtain ⟨r13, r11, rfl, h13⟩ := bA h10
    obtain ⟨aa, r15, rfl, h15⟩ := zI h13
    obtain ⟨ab, r17, rfl, h17⟩ := bI h15
    obtain ⟨ac, r19, rfl, h19⟩ := bI h17
    obtain ⟨ad, r21, rfl, h21⟩ := iI h19
    obtain ⟨ae, r23, rfl, h23⟩ := iI h21
    obtain ⟨af, r25, rfl, h25⟩ := iI h23
    obtain ⟨rfl, h26⟩ := nilK_inv h25
    obtain ⟨x1, r27, rfl, h28⟩ := bR h26
    obtain ⟨r30, r29, rfl, h30⟩ := bB h28
    obtain ⟨rfl, h31⟩ := ptrK_inv h30
    obtain ⟨r33, r32, rfl, h33⟩ := bB h31
    obtain ⟨x3, rfl, h34⟩ := asIntK_inv h33
    obtain ⟨r36, r35, rfl, h36⟩ := bB h34
    obtain ⟨x4, rfl, h37⟩ := asIntK_inv h36
    obtain ⟨rfl, h38⟩ := bNilK_inv h37
    have h := h38
    obtain ⟨r, rfl, h⟩ := h
    refine ⟨_, _, _, rfl, rfl, rfl, ?_⟩
    show evRange C45r3 [12] (codeOf Try.f45 [1, 1, 0, 0]) (codeOf Try.f45 [1, 1, 0, 1]) (skU 4 ((.ptr 2 24 0 []) :: (.ptr 3 3 0 []) :: skU 1 ((.ptr 4 3 0 []) :: skU 21 []))) (List.map (fun (el : List PV) => [(.list 5 el)]) r) (hp [(.box true 64 (.agg [(.sl 1 111 0 aa), (.bool ab), (.bool ac), (.int .i64 ad), (.int .i64 ae), (.int .i64 af)])), (.row true 111 x1), (.box true 24 (.ptr 0 64 0 [])), (.box true 3 (.int .i64 x3)), (.box true 3 (.int .i64 x4))]) 5 (onSt K)
    rw [← G45_3_eqK aa ab ac ad ae af K r x1 x3 x4]
    exact h) (LoopsOk.code (C := C45r3) (c := (codeOf Try.f45 [1, 1, 0, 0])) (l := []) (r := []) (g := []) (by kernel_rfl) (by kernel_rfl) (by kernel_rfl) trivial trivial trivial) (LoopsOk.code (C := C45r3) (c := (codeOf Try.f45 [1, 1, 0, 1])) (l := []) (r := [codeOf Try.f45 [1, 1, 0, 1, 0, 1], codeOf Try.f45 [1, 1, 0, 1, 0, 0, 1], codeOf Try.f45 [1, 1, 0, 1, 0, 1, 1], codeOf Try.f45 [1, 1, 0, 1, 0, 1, 1, 1], codeOf Try.f45 [1, 1, 0, 1, 0, 1, 1, 1, 1], codeOf Try.f45 [1, 1, 0, 1, 0, 1, 1, 1, 1, 1]]) (g := []) (by kernel_rfl) (by kernel_rfl) (by kernel_rfl) trivial ⟨(RestOk.none (by kernel_rfl)), ⟨(RestOk.none (by kernel_rfl)), ⟨(RestOk.none (by kernel_rfl)), ⟨(RestOk.none (by kernel_rfl)), ⟨Q45_7_ok, ⟨(RestOk.none (by kernel_rfl)), trivial⟩⟩⟩⟩⟩⟩ trivial)
theorem B45_eq (uat : Int) (b : List PV) (most : Int) (dn : Nat) (off : Bool) (cut : Bool) (whole : Int) (kept : Int) (writes : Int) (secs : List PV) (K : List Blk → List PV → Prop) : evF C45 Try.f45 [(.box true 64 (.agg [(.sl 1 111 0 dn), (.bool off), (.bool cut), (.int .i64 whole), (.int .i64 kept), (.int .i64 writes)])), (.row true 111 secs)] [(.ptr 0 64 0 []), (.int .i64 uat), (.list 5 b), (.int .i64 most)] K = (([(.box true 64 (.agg [(.sl 1 111 0 dn), (.bool off), (.bool cut), (.int .i64 whole), (.int .i64 kept), (.int .i64 writes)])), (.row true 111 secs)] : List Blk).length = 2 ∧ B45 uat b most dn off cut whole kept writes secs (fun z0 z1 z2 z3 z4 z5 z6 => K [(.box true 64 (.agg [(.sl 1 111 0 z0), (.bool z1), (.bool z2), (.int .i64 z3), (.int .i64 z4), (.int .i64 z5)])), (.row true 111 z6)] [])) := by kernel_rfl
theorem W45_of (hT : AllSound Try.prog pvT pvG T45) : Sound Try.prog pvT pvG 45 W45 := Sound.weak (evF_sound (C := C45) (Base.of pvT_fits pvT_sized pvT_eq hT pvMixed pvIt_ok) Try.func45 (LoopsOk.of (C := C45) (fn := Try.f45) (l := []) (r := [codeOf Try.f45 [1], codeOf Try.f45 [1, 1]]) (g := [((#[12] : Array Nat), codeOf Try.f45 [1, 1, 0, 0], codeOf Try.f45 [1, 1, 0, 1])]) (by kernel_rfl) (by kernel_rfl) (by kernel_rfl) trivial ⟨(RestOk.none (by kernel_rfl)), ⟨(RestOk.none (by kernel_rfl)), trivial⟩⟩ ⟨H45_3_ok, trivial⟩) (evF_to (C := C45) (fun bs t K h0 => by
    unfold P45 at h0
    obtain ⟨r2, rfl, h2⟩ := pI h0
    obtain ⟨uat, r4, rfl, h4⟩ := iI h2
    obtain ⟨b, r6, rfl, h6⟩ := lI h4
    obtain ⟨most, r8, rfl, h8⟩ := iI h6
    obtain ⟨rfl, h9⟩ := nilK_inv h8
    obtain ⟨r12, r10, rfl, h12⟩ := bA h9
    obtain ⟨dn, r14, rfl, h14⟩ := zI h12
    obtain ⟨off, r16, rfl, h16⟩ := bI h14
    obtain ⟨cut, r18, rfl, h18⟩ := bI h16
    obtain ⟨whole, r20, rfl, h20⟩ := iI h18
    obtain ⟨kept, r22, rfl, h22⟩ := iI h20
    obtain ⟨writes, r24, rfl, h24⟩ := iI h22
    obtain ⟨rfl, h25⟩ := nilK_inv h24
    obtain ⟨secs, r26, rfl, h27⟩ := bR h25
    obtain ⟨rfl, h28⟩ := bNilK_inv h27
    have h := h28
    refine ⟨_, _, rfl, rfl, ?_⟩
    rw [B45_eq uat b most dn off cut whole kept writes secs K]
    exact ⟨rfl, h⟩))) _
end Pv

namespace Pv
open Go Go.Proofs

theorem S48_4_eq (n4 : Int) (t12 : List PV) (t13 : Int) (t14 : Int) (aa : List PV) (ab : Bool) (ac : Bool) (G : Ex → St → Prop) : evC C48 (codeOf Try.f48 [1, 1, 0, 1, 0, 0]) (mkSt (skU 4 ((.int .u64 n4) :: skU 7 ((.list 5 t12) :: (.int .i64 t13) :: (.int .i64 t14) :: skU 13 []))) [(.box true 132 (.agg [(.list 5 aa), (.bool ab), (.bool ac)]))]) G = S48_4 t12 t13 aa ab ac n4 t14 (fun n4 t14 => G .normal (mkSt (skU 4 ((.int .u64 n4) :: skU 7 ((.list 5 t12) :: (.int .i64 t13) :: (.int .i64 t14) :: skU 13 []))) [(.box true 132 (.agg [(.list 5 aa), (.bool ab), (.bool ac)]))])) (fun z0 z3 => G (.exit 0) (mkSt (skU 4 ((.int .u64 z0) :: skU 7 ((.list 5 t12) :: (.int .i64 t13) :: (.int .i64 z3) :: skU 13 []))) [(.box true 132 (.agg [(.list 5 aa), (.bool ab), (.bool ac)]))])) := by kernel_rfl
theorem R48_4_eq (t12 : List PV) (t13 : Int) (aa : List PV) (ab : Bool) (ac : Bool) (G : Ex → St → Prop) : ∀ (n : Nat) (n4 : Int) (t14 : Int), evLoop C48 (codeOf Try.f48 [1, 1, 0, 1, 0, 0]) n (mkSt (skU 4 ((.int .u64 n4) :: skU 7 ((.list 5 t12) :: (.int .i64 t13) :: (.int .i64 t14) :: skU 13 []))) [(.box true 132 (.agg [(.list 5 aa), (.bool ab), (.bool ac)]))]) G = R48_4 t12 t13 aa ab ac (fun z0 z3 => G (.exit 0) (mkSt (skU 4 ((.int .u64 z0) :: skU 7 ((.list 5 t12) :: (.int .i64 t13) :: (.int .i64 z3) :: skU 13 []))) [(.box true 132 (.agg [(.list 5 aa), (.bool ab), (.bool ac)]))])) n n4 t14
  | 0, _, _ => rfl
  | n + 1, n4, t14 => (S48_4_eq n4 t12 t13 t14 aa ab ac (fun e s => match e with | .normal => evLoop C48 (codeOf Try.f48 [1, 1, 0, 1, 0, 0]) n s G | .exit id => G (.exit id) s | .ret => G .ret s)).trans (congrArg (fun q => S48_4 t12 t13 aa ab ac n4 t14 q (fun z0 z3 => G (.exit 0) (mkSt (skU 4 ((.int .u64 z0) :: skU 7 ((.list 5 t12) :: (.int .i64 t13) :: (.int .i64 z3) :: skU 13 []))) [(.box true 132 (.agg [(.list 5 aa), (.bool ab), (.bool ac)]))]))) (funext fun n4 => funext fun t14 => R48_4_eq t12 t13 aa ab ac G n n4 t14))
theorem R48_4_eqK (t12 : List PV) (t13 : Int) (aa : List PV) (ab : Bool) (ac : Bool) (K : Ex → List PV → List Blk → Prop) (n : Nat) (n4 : Int) (t14 : Int) : R48_4 t12 t13 aa ab ac (fun z0 z3 => K (.exit 0) (skU 4 ((.int .u64 z0) :: skU 7 ((.list 5 t12) :: (.int .i64 t13) :: (.int .i64 z3) :: skU 13 []))) [(.box true 132 (.agg [(.list 5 aa), (.bool ab), (.bool ac)]))]) n n4 t14 = evLoop C48 (codeOf Try.f48 [1, 1, 0, 1, 0, 0]) n (mkSt (skU 4 ((.int .u64 n4) :: skU 7 ((.list 5 t12) :: (.int .i64 t13) :: (.int .i64 t14) :: skU 13 []))) [(.box true 132 (.agg [(.list 5 aa), (.bool ab), (.bool ac)]))]) (onSt K) := ((R48_4_eq t12 t13 aa ab ac (onSt K) n n4 t14).trans (by kernel_rfl)).symm
theorem Q48_4_ok : LoopOk C48 (codeOf Try.f48 [1, 1, 0, 1, 0, 0]) := LoopOk.of (l := Q48_4) (by kernel_rfl) (fun t bs K h0 => by
    unfold Q48_4 at h0
    obtain ⟨r1, rfl, h1⟩ := skipU_inv h0
    obtain ⟨n4, r3, rfl, h3⟩ := iI h1
    obtain ⟨r4, rfl, h4⟩ := skipU_inv h3
    obtain ⟨t12, r6, rfl, h6⟩ := lI h4
    obtain ⟨t13, r8, rfl, h8⟩ := iI h6
    obtain ⟨t14, r10, rfl, h10⟩ := iI h8
    obtain ⟨r11, rfl, h11⟩ := skipU_inv h10
    obtain ⟨rfl, h12⟩ := nilK_inv h11
    obtain ⟨r15, r13, rfl, h15⟩ := bA h12
    obtain ⟨aa, r17, rfl, h17⟩ := lI h15
    obtain ⟨ab, r19, rfl, h19⟩ := bI h17
    obtain ⟨ac, r21, rfl, h21⟩ := bI h19
    obtain ⟨rfl, h22⟩ := nilK_inv h21
    obtain ⟨rfl, h23⟩ := bNilK_inv h22
    have h := h23
    obtain ⟨n, hn⟩ := h
    refine ⟨n, ?_⟩
    rw [← R48_4_eqK t12 t13 aa ab ac K n n4 t14]
    exact hn)
theorem J48_3_eq (w1 : Int) (n4 : Int) (aa : List PV) (ab : Bool) (ac : Bool) (K : Ex → List PV → List Blk → Prop) : J48_3 w1 n4 aa ab ac (fun z0 z1 z2 z3 => K .ret (skU 4 ((.int .u64 z0) :: skU 23 [])) [(.box true 132 (.agg [(.list 5 z1), (.bool z2), (.bool z3)]))]) = evC C48 (codeOf Try.f48 [1, 1]) (mkSt ((.ptr 0 132 0 []) :: (.int .i64 w1) :: skU 2 ((.int .u64 n4) :: skU 23 [])) [(.box true 132 (.agg [(.list 5 aa), (.bool ab), (.bool ac)]))]) (onSt K) := by kernel_rfl
theorem Q48_3_ok : RestOk C48 (codeOf Try.f48 [1, 1]) := RestOk.to (l := Q48_3) (by kernel_rfl) (by
    intro t bs K h0
    unfold Q48_3 at h0
    obtain ⟨r2, rfl, h2⟩ := pI h0
    obtain ⟨w1, r4, rfl, h4⟩ := iI h2
    obtain ⟨r5, rfl, h5⟩ := skipU_inv h4
    obtain ⟨n4, r7, rfl, h7⟩ := iI h5
    obtain ⟨r8, rfl, h8⟩ := skipU_inv h7
    obtain ⟨rfl, h9⟩ := nilK_inv h8
    obtain ⟨r12, r10, rfl, h12⟩ := bA h9
    obtain ⟨aa, r14, rfl, h14⟩ := lI h12
    obtain ⟨ab, r16, rfl, h16⟩ := bI h14
    obtain ⟨ac, r18, rfl, h18⟩ := bI h16
    obtain ⟨rfl, h19⟩ := nilK_inv h18
    obtain ⟨rfl, h20⟩ := bNilK_inv h19
    have h := h20
    refine ⟨_, _, rfl, rfl, ?_⟩
    rw [← J48_3_eq w1 n4 aa ab ac K]
    exact h)
theorem B48_eq (w : Int) (rb : List PV) (made : Bool) (torn : Bool) (K : List Blk → List PV → Prop) : evF C48 Try.f48 [(.box true 132 (.agg [(.list 5 rb), (.bool made), (.bool torn)]))] [(.ptr 0 132 0 []), (.int .i64 w)] K = (([(.box true 132 (.agg [(.list 5 rb), (.bool made), (.bool torn)]))] : List Blk).length = 1 ∧ B48 w rb made torn (fun z0 z1 z2 z3 => K [(.box true 132 (.agg [(.list 5 z1), (.bool z2), (.bool z3)]))] [(.int .u64 z0)])) := by kernel_rfl
theorem W48_of (hT : AllSound Try.prog pvT pvG T48) : Sound Try.prog pvT pvG 48 W48 := Sound.weak (evF_sound (C := C48) (Base.of pvT_fits pvT_sized pvT_eq hT pvMixed pvIt_ok) Try.func48 (LoopsOk.of (C := C48) (fn := Try.f48) (l := [codeOf Try.f48 [1, 1, 0, 1, 0, 0]]) (r := [codeOf Try.f48 [1], codeOf Try.f48 [1, 1], codeOf Try.f48 [1, 0, 1], codeOf Try.f48 [1, 1, 1], codeOf Try.f48 [1, 1, 0, 1], codeOf Try.f48 [1, 1, 0, 1, 0, 0, 1], codeOf Try.f48 [1, 1, 0, 1, 0, 0, 1, 1], codeOf Try.f48 [1, 1, 0, 1, 0, 0, 1, 1, 1], codeOf Try.f48 [1, 1, 0, 1, 0, 0, 1, 1, 0, 0, 1], codeOf Try.f48 [1, 1, 1, 1]]) (g := []) (by kernel_rfl) (by kernel_rfl) (by kernel_rfl) ⟨Q48_4_ok, trivial⟩ ⟨(RestOk.none (by kernel_rfl)), ⟨Q48_3_ok, ⟨(RestOk.none (by kernel_rfl)), ⟨(RestOk.none (by kernel_rfl)), ⟨(RestOk.none (by kernel_rfl)), ⟨(RestOk.none (by kernel_rfl)), ⟨(RestOk.none (by kernel_rfl)), ⟨(RestOk.none (by kernel_rfl)), ⟨(RestOk.none (by kernel_rfl)), ⟨(RestOk.none (by kernel_rfl)), trivial⟩⟩⟩⟩⟩⟩⟩⟩⟩⟩ trivial) (evF_to (C := C48) (fun bs t K h0 => by
    unfold P48 at h0
    obtain ⟨r2, rfl, h2⟩ := pI h0
    obtain ⟨w, r4, rfl, h4⟩ := iI h2
    obtain ⟨rfl, h5⟩ := nilK_inv h4
    obtain ⟨r8, r6, rfl, h8⟩ := bA h5
    obtain ⟨rb, r10, rfl, h10⟩ := lI h8
    obtain ⟨made, r12, rfl, h12⟩ := bI h10
    obtain ⟨torn, r14, rfl, h14⟩ := bI h12
    obtain ⟨rfl, h15⟩ := nilK_inv h14
    obtain ⟨rfl, h16⟩ := bNilK_inv h15
    have h := h16
    refine ⟨_, _, rfl, rfl, ?_⟩
    rw [B48_eq w rb made torn K]
    exact ⟨rfl, h⟩))) _
end Pv

namespace Pv
open Go Go.Proofs

theorem S54_12_eq (n1 : Int) (out5n : Nat) (t34 : Int) (t35 : Int) (x0 : List PV) (G : Ex → St → Prop) : evC C54 (codeOf Try.f54 [1, 1, 1, 1, 0, 1, 0, 0]) (mkSt (skU 1 ((.int .u64 n1) :: skU 3 ((.sl 0 5 0 out5n) :: skU 28 ((.int .i64 t34) :: (.int .i64 t35) :: skU 12 [])))) [(.row true 5 x0)]) G = S54_12 n1 t34 out5n t35 x0 (fun out5n t35 x0 => G .normal (mkSt (skU 1 ((.int .u64 n1) :: skU 3 ((.sl 0 5 0 out5n) :: skU 28 ((.int .i64 t34) :: (.int .i64 t35) :: skU 12 [])))) [(.row true 5 x0)])) (fun z1 z3 z4 => G (.exit 1) (mkSt (skU 1 ((.int .u64 n1) :: skU 3 ((.sl 0 5 0 z1) :: skU 28 ((.int .i64 t34) :: (.int .i64 z3) :: skU 12 [])))) [(.row true 5 z4)])) := by kernel_rfl
theorem R54_12_eq (n1 : Int) (t34 : Int) (G : Ex → St → Prop) : ∀ (n : Nat) (out5n : Nat) (t35 : Int) (x0 : List PV), evLoop C54 (codeOf Try.f54 [1, 1, 1, 1, 0, 1, 0, 0]) n (mkSt (skU 1 ((.int .u64 n1) :: skU 3 ((.sl 0 5 0 out5n) :: skU 28 ((.int .i64 t34) :: (.int .i64 t35) :: skU 12 [])))) [(.row true 5 x0)]) G = R54_12 n1 t34 (fun z1 z3 z4 => G (.exit 1) (mkSt (skU 1 ((.int .u64 n1) :: skU 3 ((.sl 0 5 0 z1) :: skU 28 ((.int .i64 t34) :: (.int .i64 z3) :: skU 12 [])))) [(.row true 5 z4)])) n out5n t35 x0
  | 0, _, _, _ => rfl
  | n + 1, out5n, t35, x0 => (S54_12_eq n1 out5n t34 t35 x0 (fun e s => match e with | .normal => evLoop C54 (codeOf Try.f54 [1, 1, 1, 1, 0, 1, 0, 0]) n s G | .exit id => G (.exit id) s | .ret => G .ret s)).trans (congrArg (fun q => S54_12 n1 t34 out5n t35 x0 q (fun z1 z3 z4 => G (.exit 1) (mkSt (skU 1 ((.int .u64 n1) :: skU 3 ((.sl 0 5 0 z1) :: skU 28 ((.int .i64 t34) :: (.int .i64 z3) :: skU 12 [])))) [(.row true 5 z4)]))) (funext fun out5n => funext fun t35 => funext fun x0 => R54_12_eq n1 t34 G n out5n t35 x0))
theorem R54_12_eqK (n1 : Int) (t34 : Int) (K : Ex → List PV → List Blk → Prop) (n : Nat) (out5n : Nat) (t35 : Int) (x0 : List PV) : R54_12 n1 t34 (fun z1 z3 z4 => K (.exit 1) (skU 1 ((.int .u64 n1) :: skU 3 ((.sl 0 5 0 z1) :: skU 28 ((.int .i64 t34) :: (.int .i64 z3) :: skU 12 [])))) [(.row true 5 z4)]) n out5n t35 x0 = evLoop C54 (codeOf Try.f54 [1, 1, 1, 1, 0, 1, 0, 0]) n (mkSt (skU 1 ((.int .u64 n1) :: skU 3 ((.sl 0 5 0 out5n) :: skU 28 ((.int .i64 t34) :: (.int .i64 t35) :: skU 12 [])))) [(.row true 5 x0)]) (onSt K) := ((R54_12_eq n1 t34 (onSt K) n out5n t35 x0).trans (by kernel_rfl)).symm
theorem Q54_12_ok : LoopOk C54 (codeOf Try.f54 [1, 1, 1, 1, 0, 1, 0, 0]) := LoopOk.of (l := Q54_12) (by kernel_rfl) (fun t bs K h0 => by
    unfold Q54_12 at h0
    obtain ⟨r1, rfl, h1⟩ := skipU_inv h0
    obtain ⟨n1, r3, rfl, h3⟩ := iI h1
    obtain ⟨r4, rfl, h4⟩ := skipU_inv h3
    obtain ⟨out5n, r6, rfl, h6⟩ := zI h4
    obtain ⟨r7, rfl, h7⟩ := skipU_inv h6
    obtain ⟨t34, r9, rfl, h9⟩ := iI h7
    obtain ⟨t35, r11, rfl, h11⟩ := iI h9
    obtain ⟨r12, rfl, h12⟩ := skipU_inv h11
    obtain ⟨rfl, h13⟩ := nilK_inv h12
    obtain ⟨x0, r14, rfl, h15⟩ := bR h13
    obtain ⟨rfl, h16⟩ := bNilK_inv h15
    have h := h16
    obtain ⟨n, hn⟩ := h
    refine ⟨n, ?_⟩
    rw [← R54_12_eqK n1 t34 K n out5n t35 x0]
    exact hn)
theorem J54_11_eq (n1 : Int) (out5n : Nat) (width6 : Int) (x0 : List PV) (K : Ex → List PV → List Blk → Prop) : J54_11 n1 out5n width6 x0 (fun z0 z1 => K .ret (skU 4 ((.sl 0 5 0 z0) :: skU 43 [])) [(.row true 5 z1)]) = evC C54 (codeOf Try.f54 [1, 1, 1, 1]) (mkSt (skU 1 ((.int .u64 n1) :: skU 3 ((.sl 0 5 0 out5n) :: (.int .i64 width6) :: skU 41 []))) [(.row true 5 x0)]) (onSt K) := by kernel_rfl
theorem Q54_11_ok : RestOk C54 (codeOf Try.f54 [1, 1, 1, 1]) := RestOk.to (l := Q54_11) (by kernel_rfl) (by
    intro t bs K h0
    unfold Q54_11 at h0
    obtain ⟨r1, rfl, h1⟩ := skipU_inv h0
    obtain ⟨n1, r3, rfl, h3⟩ := iI h1
    obtain ⟨r4, rfl, h4⟩ := skipU_inv h3
    obtain ⟨out5n, r6, rfl, h6⟩ := zI h4
    obtain ⟨width6, r8, rfl, h8⟩ := iI h6
    obtain ⟨r9, rfl, h9⟩ := skipU_inv h8
    obtain ⟨rfl, h10⟩ := nilK_inv h9
    obtain ⟨x0, r11, rfl, h12⟩ := bR h10
    obtain ⟨rfl, h13⟩ := bNilK_inv h12
    have h := h13
    refine ⟨_, _, rfl, rfl, ?_⟩
    rw [← J54_11_eq n1 out5n width6 x0 K]
    exact h)
theorem B54_eq (b0 : List PV) (n1 : Int) (K : List Blk → List PV → Prop) : evF C54 Try.f54 [] [(.list 5 b0), (.int .u64 n1)] K = (([] : List Blk).length = 0 ∧ B54 b0 n1 (fun z0 z1 => K [(.row true 5 z1)] [(.sl 0 5 0 z0)])) := by kernel_rfl
theorem W54_of (hT : AllSound Try.prog pvT pvG T54) : Sound Try.prog pvT pvG 54 W54 := Sound.weak (evF_sound (C := C54) (Base.of pvT_fits pvT_sized pvT_eq hT pvMixed pvIt_ok) Try.func54 (LoopsOk.of (C := C54) (fn := Try.f54) (l := [codeOf Try.f54 [1, 1, 1, 1, 0, 1, 0, 0]]) (r := [codeOf Try.f54 [1], codeOf Try.f54 [1, 1], codeOf Try.f54 [1, 1, 1], codeOf Try.f54 [1, 1, 1, 1], codeOf Try.f54 [1, 1, 1, 0, 1], codeOf Try.f54 [1, 1, 1, 0, 1, 0, 1], codeOf Try.f54 [1, 1, 1, 0, 1, 0, 1, 0, 1], codeOf Try.f54 [1, 1, 1, 0, 1, 0, 1, 1, 1], codeOf Try.f54 [1, 1, 1, 0, 1, 0, 1, 1, 1, 1, 1], codeOf Try.f54 [1, 1, 1, 1, 1], codeOf Try.f54 [1, 1, 1, 1, 0, 1], codeOf Try.f54 [1, 1, 1, 1, 0, 1, 0, 0, 1], codeOf Try.f54 [1, 1, 1, 1, 0, 1, 0, 0, 1, 1], codeOf Try.f54 [1, 1, 1, 1, 0, 1, 0, 0, 1, 1, 1], codeOf Try.f54 [1, 1, 1, 1, 0, 1, 0, 0, 1, 1, 0, 0, 1], codeOf Try.f54 [1, 1, 1, 1, 1, 1]]) (g := []) (by kernel_rfl) (by kernel_rfl) (by kernel_rfl) ⟨Q54_12_ok, trivial⟩ ⟨(RestOk.none (by kernel_rfl)), ⟨(RestOk.none (by kernel_rfl)), ⟨(RestOk.none (by kernel_rfl)), ⟨Q54_11_ok, ⟨(RestOk.none (by kernel_rfl)), ⟨(RestOk.none (by kernel_rfl)), ⟨(RestOk.none (by kernel_rfl)), ⟨(RestOk.none (by kernel_rfl)), ⟨(RestOk.none (by kernel_rfl)), ⟨(RestOk.none (by kernel_rfl)), ⟨(RestOk.none (by kernel_rfl)), ⟨(RestOk.none (by kernel_rfl)), ⟨(RestOk.none (by kernel_rfl)), ⟨(RestOk.none (by kernel_rfl)), ⟨(RestOk.none (by kernel_rfl)), ⟨(RestOk.none (by kernel_rfl)), trivial⟩⟩⟩⟩⟩⟩⟩⟩⟩⟩⟩⟩⟩⟩⟩⟩ trivial) (evF_to (C := C54) (fun bs t K h0 => by
    unfold P54 at h0
    obtain ⟨b0, r2, rfl, h2⟩ := lI h0
    obtain ⟨n1, r4, rfl, h4⟩ := iI h2
    obtain ⟨rfl, h5⟩ := nilK_inv h4
    obtain ⟨rfl, h6⟩ := bNilK_inv h5
    have h := h6
    refine ⟨_, _, rfl, rfl, ?_⟩
    rw [B54_eq b0 n1 K]
    exact ⟨rfl, h⟩))) _
end Pv

namespace Pv
open Go Go.Proofs

theorem S32_4_eq (m21 : List PV) (x0 : List PV) (G : Ex → St → Prop) : evC C32 (codeOf Try.f32 [1, 1, 0, 1, 0, 0]) (mkSt (skU 1 ((.dmap 9 77 m21) :: skU 13 ((.ptr 0 0 0 []) :: skU 18 []))) [(.iter true 9 77 x0 .undef)]) G = S32_4 m21 x0 (fun x0 => G .normal (mkSt (skU 1 ((.dmap 9 77 m21) :: skU 13 ((.ptr 0 0 0 []) :: skU 18 []))) [(.iter true 9 77 x0 .undef)])) (fun z1 => G (.exit 0) (mkSt (skU 1 ((.dmap 9 77 m21) :: skU 13 ((.ptr 0 0 0 []) :: skU 18 []))) [(.iter true 9 77 z1 .undef)])) (G .ret (mkSt (skU 4 ((.bool false) :: skU 29 [])) [])) := by kernel_rfl
theorem R32_4_eq (m21 : List PV) (G : Ex → St → Prop) : ∀ (n : Nat) (x0 : List PV), evLoop C32 (codeOf Try.f32 [1, 1, 0, 1, 0, 0]) n (mkSt (skU 1 ((.dmap 9 77 m21) :: skU 13 ((.ptr 0 0 0 []) :: skU 18 []))) [(.iter true 9 77 x0 .undef)]) G = R32_4 m21 (fun z1 => G (.exit 0) (mkSt (skU 1 ((.dmap 9 77 m21) :: skU 13 ((.ptr 0 0 0 []) :: skU 18 []))) [(.iter true 9 77 z1 .undef)])) (G .ret (mkSt (skU 4 ((.bool false) :: skU 29 [])) [])) n x0
  | 0, _ => rfl
  | n + 1, x0 => (S32_4_eq m21 x0 (fun e s => match e with | .normal => evLoop C32 (codeOf Try.f32 [1, 1, 0, 1, 0, 0]) n s G | .exit id => G (.exit id) s | .ret => G .ret s)).trans (congrArg (fun q => S32_4 m21 x0 q (fun z1 => G (.exit 0) (mkSt (skU 1 ((.dmap 9 77 m21) :: skU 13 ((.ptr 0 0 0 []) :: skU 18 []))) [(.iter true 9 77 z1 .undef)])) (G .ret (mkSt (skU 4 ((.bool false) :: skU 29 [])) []))) (funext fun x0 => R32_4_eq m21 G n x0))
theorem R32_4_eqK (m21 : List PV) (K : Ex → List PV → List Blk → Prop) (n : Nat) (x0 : List PV) : R32_4 m21 (fun z1 => K (.exit 0) (skU 1 ((.dmap 9 77 m21) :: skU 13 ((.ptr 0 0 0 []) :: skU 18 []))) [(.iter true 9 77 z1 .undef)]) (K .ret (skU 4 ((.bool false) :: skU 29 [])) []) n x0 = evLoop C32 (codeOf Try.f32 [1, 1, 0, 1, 0, 0]) n (mkSt (skU 1 ((.dmap 9 77 m21) :: skU 13 ((.ptr 0 0 0 []) :: skU 18 []))) [(.iter true 9 77 x0 .undef)]) (onSt K) := ((R32_4_eq m21 (onSt K) n x0).trans (by kernel_rfl)).symm
theorem Q32_4_ok : LoopOk C32 (codeOf Try.f32 [1, 1, 0, 1, 0, 0]) := LoopOk.of (l := Q32_4) (by kernel_rfl) (fun t bs K h0 => by
    unfold Q32_4 at h0
    obtain ⟨r1, rfl, h1⟩ := skipU_inv h0
    obtain ⟨r2, r3, rfl, h2⟩ := consK_inv h1
    obtain ⟨m21, rfl, h3⟩ := dmapK_inv h2
    obtain ⟨r4, rfl, h4⟩ := skipU_inv h3
    obtain ⟨r6, rfl, h6⟩ := pI h4
    obtain ⟨r7, rfl, h7⟩ := skipU_inv h6
    obtain ⟨rfl, h8⟩ := nilK_inv h7
    obtain ⟨r8, r9, rfl, h9⟩ := bConsK_inv h8
    obtain ⟨x0, r10, rfl, h10⟩ := bIterK_inv h9
    obtain ⟨rfl, h11⟩ := undefK_inv h10
    obtain ⟨rfl, h12⟩ := bNilK_inv h11
    have h := h12
    obtain ⟨n, hn⟩ := h
    refine ⟨n, ?_⟩
    rw [← R32_4_eqK m21 K n x0]
    exact hn)
theorem B32_eq (m10 : List PV) (m21 : List PV) (K : List Blk → List PV → Prop) : evF C32 Try.f32 [] [(.dmap 9 77 m10), (.dmap 9 77 m21)] K = (([] : List Blk).length = 0 ∧ B32 m10 m21 (fun z0 => K [] [(.bool z0)])) := by kernel_rfl
theorem W32_of (hT : AllSound Try.prog pvT pvG T32) : Sound Try.prog pvT pvG 32 W32 := Sound.weak (evF_sound (C := C32) (Base.of pvT_fits pvT_sized pvT_eq hT pvMixed pvIt_ok) Try.func32 (LoopsOk.of (C := C32) (fn := Try.f32) (l := [codeOf Try.f32 [1, 1, 0, 1, 0, 0]]) (g := []) (by kernel_rfl) rfl (by kernel_rfl) ⟨Q32_4_ok, trivial⟩ (RestOk.all rfl _) trivial) (evF_to (C := C32) (fun bs t K h0 => by
    unfold P32 at h0
    obtain ⟨r1, r2, rfl, h1⟩ := consK_inv h0
    obtain ⟨m10, rfl, h2⟩ := dmapK_inv h1
    obtain ⟨r3, r4, rfl, h3⟩ := consK_inv h2
    obtain ⟨m21, rfl, h4⟩ := dmapK_inv h3
    obtain ⟨rfl, h5⟩ := nilK_inv h4
    obtain ⟨rfl, h6⟩ := bNilK_inv h5
    have h := h6
    refine ⟨_, _, rfl, rfl, ?_⟩
    rw [B32_eq m10 m21 K]
    exact ⟨rfl, h⟩))) _
end Pv

namespace Pv
open Go Go.Proofs

theorem B20_eq (key : ByteArray) (snumber : Int) (sfirst : Int) (slong : Int) (ssum : Int) (place : Int) (top : Int) (soff : Bool) (dn : Nat) (off : Bool) (cut : Bool) (whole : Int) (kept : Int) (writes : Int) (pairs : List PV) (secs : List PV) (K : List Blk → List PV → Prop) : evF C20 Try.f20 [(.box true 57 (.agg [(.ptr 1 64 0 []), (.mapr 2), (.agg [(.int .u64 snumber), (.int .i64 sfirst), (.int .i64 slong), (.int .u32 ssum)]), (.int .i64 place), (.int .u64 top), (.bool soff)])), (.box true 64 (.agg [(.sl 3 111 0 dn), (.bool off), (.bool cut), (.int .i64 whole), (.int .i64 kept), (.int .i64 writes)])), (.map false 9 77 pairs), (.row true 111 secs)] [(.ptr 0 57 0 []), (.str key)] K = (([(.box true 57 (.agg [(.ptr 1 64 0 []), (.mapr 2), (.agg [(.int .u64 snumber), (.int .i64 sfirst), (.int .i64 slong), (.int .u32 ssum)]), (.int .i64 place), (.int .u64 top), (.bool soff)])), (.box true 64 (.agg [(.sl 3 111 0 dn), (.bool off), (.bool cut), (.int .i64 whole), (.int .i64 kept), (.int .i64 writes)])), (.map false 9 77 pairs), (.row true 111 secs)] : List Blk).length = 4 ∧ B20 key snumber sfirst slong ssum place top soff dn off cut whole kept writes pairs secs (fun z0 z1 z2 z3 z4 z5 z6 z7 z8 z9 z10 z11 z12 z13 z14 z15 z16 => K [(.box true 57 (.agg [(.ptr 1 64 0 []), (.mapr 2), (.agg [(.int .u64 z2), (.int .i64 z3), (.int .i64 z4), (.int .u32 z5)]), (.int .i64 z6), (.int .u64 z7), (.bool z8)])), (.box true 64 (.agg [(.sl 3 111 0 z9), (.bool z10), (.bool z11), (.int .i64 z12), (.int .i64 z13), (.int .i64 z14)])), (.map false 9 77 z15), (.row true 111 z16)] [(.str z0), (.bool z1)])) := by kernel_rfl
theorem W20_of (hT : AllSound Try.prog pvT pvG T20) : Sound Try.prog pvT pvG 20 W20 := Sound.weak (evF_sound (C := C20) (Base.of pvT_fits pvT_sized pvT_eq hT pvMixed pvIt_ok) Try.func20 (LoopsOk.of (C := C20) (fn := Try.f20) (l := []) (g := []) (by kernel_rfl) rfl (by kernel_rfl) trivial (RestOk.all rfl _) trivial) (evF_to (C := C20) (fun bs t K h0 => by
    unfold P20 at h0
    obtain ⟨r2, rfl, h2⟩ := pI h0
    obtain ⟨key, r4, rfl, h4⟩ := sI h2
    obtain ⟨rfl, h5⟩ := nilK_inv h4
    obtain ⟨r8, r6, rfl, h8⟩ := bA h5
    obtain ⟨r10, rfl, h10⟩ := pI h8
    obtain ⟨r12, rfl, h12⟩ := mI h10
    obtain ⟨r15, r14, rfl, h14⟩ := aI h12
    obtain ⟨snumber, r17, rfl, h16⟩ := iI h14
    obtain ⟨sfirst, r19, rfl, h18⟩ := iI h16
    obtain ⟨slong, r21, rfl, h20⟩ := iI h18
    obtain ⟨ssum, r23, rfl, h22⟩ := iI h20
    obtain ⟨rfl, h23⟩ := nilK_inv h22
    obtain ⟨place, r25, rfl, h25⟩ := iI h23
    obtain ⟨top, r27, rfl, h27⟩ := iI h25
    obtain ⟨soff, r29, rfl, h29⟩ := bI h27
    obtain ⟨rfl, h30⟩ := nilK_inv h29
    obtain ⟨r33, r31, rfl, h33⟩ := bA h30
    obtain ⟨dn, r35, rfl, h35⟩ := zI h33
    obtain ⟨off, r37, rfl, h37⟩ := bI h35
    obtain ⟨cut, r39, rfl, h39⟩ := bI h37
    obtain ⟨whole, r41, rfl, h41⟩ := iI h39
    obtain ⟨kept, r43, rfl, h43⟩ := iI h41
    obtain ⟨writes, r45, rfl, h45⟩ := iI h43
    obtain ⟨rfl, h46⟩ := nilK_inv h45
    obtain ⟨pairs, r47, rfl, h48⟩ := bM h46
    obtain ⟨secs, r49, rfl, h50⟩ := bR h48
    obtain ⟨rfl, h51⟩ := bNilK_inv h50
    have h := h51
    refine ⟨_, _, rfl, rfl, ?_⟩
    rw [B20_eq key snumber sfirst slong ssum place top soff dn off cut whole kept writes pairs secs K]
    exact ⟨rfl, h⟩))) _
end Pv

namespace Pv
open Go Go.Proofs

theorem B22_eq (snumber : Int) (sfirst : Int) (slong : Int) (ssum : Int) (place : Int) (top : Int) (soff : Bool) (dn : Nat) (off : Bool) (cut : Bool) (whole : Int) (kept : Int) (writes : Int) (pairs : List PV) (secs : List PV) (K : List Blk → List PV → Prop) : evF C22 Try.f22 [(.box true 57 (.agg [(.ptr 1 64 0 []), (.mapr 2), (.agg [(.int .u64 snumber), (.int .i64 sfirst), (.int .i64 slong), (.int .u32 ssum)]), (.int .i64 place), (.int .u64 top), (.bool soff)])), (.box true 64 (.agg [(.sl 3 111 0 dn), (.bool off), (.bool cut), (.int .i64 whole), (.int .i64 kept), (.int .i64 writes)])), (.map false 9 77 pairs), (.row true 111 secs)] [(.ptr 0 57 0 [])] K = (([(.box true 57 (.agg [(.ptr 1 64 0 []), (.mapr 2), (.agg [(.int .u64 snumber), (.int .i64 sfirst), (.int .i64 slong), (.int .u32 ssum)]), (.int .i64 place), (.int .u64 top), (.bool soff)])), (.box true 64 (.agg [(.sl 3 111 0 dn), (.bool off), (.bool cut), (.int .i64 whole), (.int .i64 kept), (.int .i64 writes)])), (.map false 9 77 pairs), (.row true 111 secs)] : List Blk).length = 4 ∧ B22 snumber sfirst slong ssum place top soff dn off cut whole kept writes pairs secs (fun z0 z1 z2 z3 z4 z5 z6 z7 z8 z9 z10 z11 z12 z13 z14 z15 => K [(.box true 57 (.agg [(.ptr 1 64 0 []), (.mapr 2), (.agg [(.int .u64 z1), (.int .i64 z2), (.int .i64 z3), (.int .u32 z4)]), (.int .i64 z5), (.int .u64 z6), (.bool z7)])), (.box true 64 (.agg [(.sl 3 111 0 z8), (.bool z9), (.bool z10), (.int .i64 z11), (.int .i64 z12), (.int .i64 z13)])), (.map false 9 77 z14), (.row true 111 z15)] [(.int .i64 z0)])) := by kernel_rfl
theorem W22_of (hT : AllSound Try.prog pvT pvG T22) : Sound Try.prog pvT pvG 22 W22 := Sound.weak (evF_sound (C := C22) (Base.of pvT_fits pvT_sized pvT_eq hT pvMixed pvIt_ok) Try.func22 (LoopsOk.of (C := C22) (fn := Try.f22) (l := []) (g := []) (by kernel_rfl) rfl (by kernel_rfl) trivial (RestOk.all rfl _) trivial) (evF_to (C := C22) (fun bs t K h0 => by
    unfold P22 at h0
    obtain ⟨r2, rfl, h2⟩ := pI h0
    obtain ⟨rfl, h3⟩ := nilK_inv h2
    obtain ⟨r6, r4, rfl, h6⟩ := bA h3
    obtain ⟨r8, rfl, h8⟩ := pI h6
    obtain ⟨r10, rfl, h10⟩ := mI h8
    obtain ⟨r13, r12, rfl, h12⟩ := aI h10
    obtain ⟨snumber, r15, rfl, h14⟩ := iI h12
    obtain ⟨sfirst, r17, rfl, h16⟩ := iI h14
    obtain ⟨slong, r19, rfl, h18⟩ := iI h16
    obtain ⟨ssum, r21, rfl, h20⟩ := iI h18
    obtain ⟨rfl, h21⟩ := nilK_inv h20
    obtain ⟨place, r23, rfl, h23⟩ := iI h21
    obtain ⟨top, r25, rfl, h25⟩ := iI h23
    obtain ⟨soff, r27, rfl, h27⟩ := bI h25
    obtain ⟨rfl, h28⟩ := nilK_inv h27
    obtain ⟨r31, r29, rfl, h31⟩ := bA h28
    obtain ⟨dn, r33, rfl, h33⟩ := zI h31
    obtain ⟨off, r35, rfl, h35⟩ := bI h33
    obtain ⟨cut, r37, rfl, h37⟩ := bI h35
    obtain ⟨whole, r39, rfl, h39⟩ := iI h37
    obtain ⟨kept, r41, rfl, h41⟩ := iI h39
    obtain ⟨writes, r43, rfl, h43⟩ := iI h41
    obtain ⟨rfl, h44⟩ := nilK_inv h43
    obtain ⟨pairs, r45, rfl, h46⟩ := bM h44
    obtain ⟨secs, r47, rfl, h48⟩ := bR h46
    obtain ⟨rfl, h49⟩ := bNilK_inv h48
    have h := h49
    refine ⟨_, _, rfl, rfl, ?_⟩
    rw [B22_eq snumber sfirst slong ssum place top soff dn off cut whole kept writes pairs secs K]
    exact ⟨rfl, h⟩))) _
end Pv

namespace Pv
open Go Go.Proofs

theorem B8_eq (whole1 : Int) (kept1 : Int) (dn : Nat) (off : Bool) (cut : Bool) (whole : Int) (kept : Int) (writes : Int) (secs : List PV) (K : List Blk → List PV → Prop) : evF C8 Try.f8 [(.box true 64 (.agg [(.sl 1 111 0 dn), (.bool off), (.bool cut), (.int .i64 whole), (.int .i64 kept), (.int .i64 writes)])), (.row true 111 secs)] [(.ptr 0 64 0 []), (.int .i64 whole1), (.int .i64 kept1)] K = (([(.box true 64 (.agg [(.sl 1 111 0 dn), (.bool off), (.bool cut), (.int .i64 whole), (.int .i64 kept), (.int .i64 writes)])), (.row true 111 secs)] : List Blk).length = 2 ∧ B8 whole1 kept1 dn off cut whole kept writes secs (fun z0 z1 z2 z3 z4 z5 z6 z7 => K [(.box true 64 (.agg [(.sl 1 111 0 z1), (.bool z2), (.bool z3), (.int .i64 z4), (.int .i64 z5), (.int .i64 z6)])), (.row true 111 z7)] [(.int .i64 z0)])) := by kernel_rfl
theorem W8_of (hT : AllSound Try.prog pvT pvG T8) : Sound Try.prog pvT pvG 8 W8 := Sound.weak (evF_sound (C := C8) (Base.of pvT_fits pvT_sized pvT_eq hT pvMixed pvIt_ok) Try.func8 (LoopsOk.of (C := C8) (fn := Try.f8) (l := []) (g := []) (by kernel_rfl) rfl (by kernel_rfl) trivial (RestOk.all rfl _) trivial) (evF_to (C := C8) (fun bs t K h0 => by
    unfold P8 at h0
    obtain ⟨r2, rfl, h2⟩ := pI h0
    obtain ⟨whole1, r4, rfl, h4⟩ := iI h2
    obtain ⟨kept1, r6, rfl, h6⟩ := iI h4
    obtain ⟨rfl, h7⟩ := nilK_inv h6
    obtain ⟨r10, r8, rfl, h10⟩ := bA h7
    obtain ⟨dn, r12, rfl, h12⟩ := zI h10
    obtain ⟨off, r14, rfl, h14⟩ := bI h12
    obtain ⟨cut, r16, rfl, h16⟩ := bI h14
    obtain ⟨whole, r18, rfl, h18⟩ := iI h16
    obtain ⟨kept, r20, rfl, h20⟩ := iI h18
    obtain ⟨writes, r22, rfl, h22⟩ := iI h20
    obtain ⟨rfl, h23⟩ := nilK_inv h22
    obtain ⟨secs, r24, rfl, h25⟩ := bR h23
    obtain ⟨rfl, h26⟩ := bNilK_inv h25
    have h := h26
    refine ⟨_, _, rfl, rfl, ?_⟩
    rw [B8_eq whole1 kept1 dn off cut whole kept writes secs K]
    exact ⟨rfl, h⟩))) _
end Pv

namespace Pv
open Go Go.Proofs

theorem B17_eq (uat : Int) (want : ByteArray) (dn : Nat) (off : Bool) (cut : Bool) (whole : Int) (kept : Int) (writes : Int) (secs : List PV) (K : List Blk → List PV → Prop) : evF C17 Try.f17 [(.box true 64 (.agg [(.sl 1 111 0 dn), (.bool off), (.bool cut), (.int .i64 whole), (.int .i64 kept), (.int .i64 writes)])), (.row true 111 secs)] [(.ptr 0 64 0 []), (.int .i64 uat), (.str want)] K = (([(.box true 64 (.agg [(.sl 1 111 0 dn), (.bool off), (.bool cut), (.int .i64 whole), (.int .i64 kept), (.int .i64 writes)])), (.row true 111 secs)] : List Blk).length = 2 ∧ B17 uat want dn off cut whole kept writes secs (fun z0 z1 z2 z3 z4 z5 z6 z7 => K [(.box true 64 (.agg [(.sl 1 111 0 z1), (.bool z2), (.bool z3), (.int .i64 z4), (.int .i64 z5), (.int .i64 z6)])), (.row true 111 z7)] [(.bool z0)])) := by kernel_rfl
theorem W17_of (hT : AllSound Try.prog pvT pvG T17) : Sound Try.prog pvT pvG 17 W17 := Sound.weak (evF_sound (C := C17) (Base.of pvT_fits pvT_sized pvT_eq hT pvMixed pvIt_ok) Try.func17 (LoopsOk.of (C := C17) (fn := Try.f17) (l := []) (g := []) (by kernel_rfl) rfl (by kernel_rfl) trivial (RestOk.all rfl _) trivial) (evF_to (C := C17) (fun bs t K h0 => by
    unfold P17 at h0
    obtain ⟨r2, rfl, h2⟩ := pI h0
    obtain ⟨uat, r4, rfl, h4⟩ := iI h2
    obtain ⟨want, r6, rfl, h6⟩ := sI h4
    obtain ⟨rfl, h7⟩ := nilK_inv h6
    obtain ⟨r10, r8, rfl, h10⟩ := bA h7
    obtain ⟨dn, r12, rfl, h12⟩ := zI h10
    obtain ⟨off, r14, rfl, h14⟩ := bI h12
    obtain ⟨cut, r16, rfl, h16⟩ := bI h14
    obtain ⟨whole, r18, rfl, h18⟩ := iI h16
    obtain ⟨kept, r20, rfl, h20⟩ := iI h18
    obtain ⟨writes, r22, rfl, h22⟩ := iI h20
    obtain ⟨rfl, h23⟩ := nilK_inv h22
    obtain ⟨secs, r24, rfl, h25⟩ := bR h23
    obtain ⟨rfl, h26⟩ := bNilK_inv h25
    have h := h26
    refine ⟨_, _, rfl, rfl, ?_⟩
    rw [B17_eq uat want dn off cut whole kept writes secs K]
    exact ⟨rfl, h⟩))) _
end Pv

namespace Pv
open Go Go.Proofs

theorem B12_eq (dn : Nat) (off : Bool) (cut : Bool) (whole : Int) (kept : Int) (writes : Int) (secs : List PV) (K : List Blk → List PV → Prop) : evF C12 Try.f12 [(.box true 64 (.agg [(.sl 1 111 0 dn), (.bool off), (.bool cut), (.int .i64 whole), (.int .i64 kept), (.int .i64 writes)])), (.row true 111 secs)] [(.ptr 0 64 0 [])] K = (([(.box true 64 (.agg [(.sl 1 111 0 dn), (.bool off), (.bool cut), (.int .i64 whole), (.int .i64 kept), (.int .i64 writes)])), (.row true 111 secs)] : List Blk).length = 2 ∧ B12 dn off cut whole kept writes secs (fun z0 z1 z2 z3 z4 z5 z6 z7 => K [(.box true 64 (.agg [(.sl 1 111 0 z1), (.bool z2), (.bool z3), (.int .i64 z4), (.int .i64 z5), (.int .i64 z6)])), (.row true 111 z7)] [(.bool z0)])) := by kernel_rfl
theorem W12_of (hT : AllSound Try.prog pvT pvG T12) : Sound Try.prog pvT pvG 12 W12 := Sound.weak (evF_sound (C := C12) (Base.of pvT_fits pvT_sized pvT_eq hT pvMixed pvIt_ok) Try.func12 (LoopsOk.of (C := C12) (fn := Try.f12) (l := []) (g := []) (by kernel_rfl) rfl (by kernel_rfl) trivial (RestOk.all rfl _) trivial) (evF_to (C := C12) (fun bs t K h0 => by
    unfold P12 at h0
    obtain ⟨r2, rfl, h2⟩ := pI h0
    obtain ⟨rfl, h3⟩ := nilK_inv h2
    obtain ⟨r6, r4, rfl, h6⟩ := bA h3
    obtain ⟨dn, r8, rfl, h8⟩ := zI h6
    obtain ⟨off, r10, rfl, h10⟩ := bI h8
    obtain ⟨cut, r12, rfl, h12⟩ := bI h10
    obtain ⟨whole, r14, rfl, h14⟩ := iI h12
    obtain ⟨kept, r16, rfl, h16⟩ := iI h14
    obtain ⟨writes, r18, rfl, h18⟩ := iI h16
    obtain ⟨rfl, h19⟩ := nilK_inv h18
    obtain ⟨secs, r20, rfl, h21⟩ := bR h19
    obtain ⟨rfl, h22⟩ := bNilK_inv h21
    have h := h22
    refine ⟨_, _, rfl, rfl, ?_⟩
    rw [B12_eq dn off cut whole kept writes secs K]
    exact ⟨rfl, h⟩))) _
end Pv

namespace Pv
open Go Go.Proofs

theorem B70_eq (rb : List PV) (made : Bool) (torn : Bool) (K : List Blk → List PV → Prop) : evF C70 Try.f70 [(.box true 132 (.agg [(.list 5 rb), (.bool made), (.bool torn)]))] [(.ptr 0 132 0 [])] K = (([(.box true 132 (.agg [(.list 5 rb), (.bool made), (.bool torn)]))] : List Blk).length = 1 ∧ B70 rb made torn (fun z0 z1 z2 z3 => K [(.box true 132 (.agg [(.list 5 z1), (.bool z2), (.bool z3)]))] [(.bool z0)])) := by kernel_rfl
theorem W70_of (hT : AllSound Try.prog pvT pvG T70) : Sound Try.prog pvT pvG 70 W70 := Sound.weak (evF_sound (C := C70) (Base.of pvT_fits pvT_sized pvT_eq hT pvMixed pvIt_ok) Try.func70 (LoopsOk.of (C := C70) (fn := Try.f70) (l := []) (g := []) (by kernel_rfl) rfl (by kernel_rfl) trivial (RestOk.all rfl _) trivial) (evF_to (C := C70) (fun bs t K h0 => by
    unfold P70 at h0
    obtain ⟨r2, rfl, h2⟩ := pI h0
    obtain ⟨rfl, h3⟩ := nilK_inv h2
    obtain ⟨r6, r4, rfl, h6⟩ := bA h3
    obtain ⟨rb, r8, rfl, h8⟩ := lI h6
    obtain ⟨made, r10, rfl, h10⟩ := bI h8
    obtain ⟨torn, r12, rfl, h12⟩ := bI h10
    obtain ⟨rfl, h13⟩ := nilK_inv h12
    obtain ⟨rfl, h14⟩ := bNilK_inv h13
    have h := h14
    refine ⟨_, _, rfl, rfl, ?_⟩
    rw [B70_eq rb made torn K]
    exact ⟨rfl, h⟩))) _
end Pv

namespace Pv
open Go Go.Proofs

theorem B6_eq (sectors0 : Int) (K : List Blk → List PV → Prop) : evF C6 Try.f6 [] [(.int .i64 sectors0)] K = (([] : List Blk).length = 0 ∧ B6 sectors0 (K [] [.nilp, (.int .i64 2)]) (fun z0 z1 => K [(.box true 64 (.agg [(.sl 1 111 0 z0), (.bool false), (.bool false), (.int .i64 0), (.int .i64 0), (.int .i64 0)])), (.row true 111 z1)] [(.ptr 0 64 0 []), (.int .i64 0)])) := by kernel_rfl
theorem W6_of (hT : AllSound Try.prog pvT pvG T6) : Sound Try.prog pvT pvG 6 W6 := Sound.weak (evF_sound (C := C6) (Base.of pvT_fits pvT_sized pvT_eq hT pvMixed pvIt_ok) Try.func6 (LoopsOk.of (C := C6) (fn := Try.f6) (l := []) (g := []) (by kernel_rfl) rfl (by kernel_rfl) trivial (RestOk.all rfl _) trivial) (evF_to (C := C6) (fun bs t K h0 => by
    unfold P6 at h0
    obtain ⟨sectors0, r2, rfl, h2⟩ := iI h0
    obtain ⟨rfl, h3⟩ := nilK_inv h2
    obtain ⟨rfl, h4⟩ := bNilK_inv h3
    have h := h4
    refine ⟨_, _, rfl, rfl, ?_⟩
    rw [B6_eq sectors0 K]
    exact ⟨rfl, h⟩))) _
end Pv

namespace Pv
open Go Go.Proofs

theorem B31_eq (p0f0 : ByteArray) (p0f1 : ByteArray) (K : List Blk → List PV → Prop) : evF C31 Try.f31 [] [(.agg [(.str p0f0), (.str p0f1)])] K = (([] : List Blk).length = 0 ∧ B31 p0f0 p0f1 (fun z0 => K [] [(.bool z0)])) := by kernel_rfl
theorem W31_of (hT : AllSound Try.prog pvT pvG T31) : Sound Try.prog pvT pvG 31 W31 := Sound.weak (evF_sound (C := C31) (Base.of pvT_fits pvT_sized pvT_eq hT pvMixed pvIt_ok) Try.func31 (LoopsOk.of (C := C31) (fn := Try.f31) (l := []) (g := []) (by kernel_rfl) rfl (by kernel_rfl) trivial (RestOk.all rfl _) trivial) (evF_to (C := C31) (fun bs t K h0 => by
    unfold P31 at h0
    obtain ⟨r3, r2, rfl, h2⟩ := aI h0
    obtain ⟨p0f0, r5, rfl, h4⟩ := sI h2
    obtain ⟨p0f1, r7, rfl, h6⟩ := sI h4
    obtain ⟨rfl, h7⟩ := nilK_inv h6
    obtain ⟨rfl, h8⟩ := nilK_inv h7
    obtain ⟨rfl, h9⟩ := bNilK_inv h8
    have h := h9
    refine ⟨_, _, rfl, rfl, ?_⟩
    rw [B31_eq p0f0 p0f1 K]
    exact ⟨rfl, h⟩))) _
end Pv

namespace Pv
open Go Go.Proofs

theorem B55_eq (b0 : List PV) (t1 : List PV) (K : List Blk → List PV → Prop) : evF C55 Try.f55 [] [(.list 5 b0), (.list 5 t1)] K = (([] : List Blk).length = 0 ∧ B55 b0 t1 (fun z0 z1 => K [(.row true 5 z1)] [(.sl 0 5 0 z0)])) := by kernel_rfl
theorem W55_of (hT : AllSound Try.prog pvT pvG T55) : Sound Try.prog pvT pvG 55 W55 := Sound.weak (evF_sound (C := C55) (Base.of pvT_fits pvT_sized pvT_eq hT pvMixed pvIt_ok) Try.func55 (LoopsOk.of (C := C55) (fn := Try.f55) (l := []) (g := []) (by kernel_rfl) rfl (by kernel_rfl) trivial (RestOk.all rfl _) trivial) (evF_to (C := C55) (fun bs t K h0 => by
    unfold P55 at h0
    obtain ⟨b0, r2, rfl, h2⟩ := lI h0
    obtain ⟨t1, r4, rfl, h4⟩ := lI h2
    obtain ⟨rfl, h5⟩ := nilK_inv h4
    obtain ⟨rfl, h6⟩ := bNilK_inv h5
    have h := h6
    refine ⟨_, _, rfl, rfl, ?_⟩
    rw [B55_eq b0 t1 K]
    exact ⟨rfl, h⟩))) _
end Pv

namespace Pv
open Go Go.Proofs

theorem B46_eq (b0 : List PV) (K : List Blk → List PV → Prop) : evF C46 Try.f46 [] [(.list 5 b0)] K = (([] : List Blk).length = 0 ∧ B46 b0 (fun z0 => K [(.box true 132 (.agg [(.list 5 z0), (.bool true), (.bool false)]))] [(.ptr 0 132 0 [])])) := by kernel_rfl
theorem W46_of (hT : AllSound Try.prog pvT pvG T46) : Sound Try.prog pvT pvG 46 W46 := Sound.weak (evF_sound (C := C46) (Base.of pvT_fits pvT_sized pvT_eq hT pvMixed pvIt_ok) Try.func46 (LoopsOk.of (C := C46) (fn := Try.f46) (l := []) (g := []) (by kernel_rfl) rfl (by kernel_rfl) trivial (RestOk.all rfl _) trivial) (evF_to (C := C46) (fun bs t K h0 => by
    unfold P46 at h0
    obtain ⟨b0, r2, rfl, h2⟩ := lI h0
    obtain ⟨rfl, h3⟩ := nilK_inv h2
    obtain ⟨rfl, h4⟩ := bNilK_inv h3
    have h := h4
    refine ⟨_, _, rfl, rfl, ?_⟩
    rw [B46_eq b0 K]
    exact ⟨rfl, h⟩))) _
end Pv

namespace Pv
open Go Go.Proofs

theorem B26_eq (long0 : Int) (K : List Blk → List PV → Prop) : evF C26 Try.f26 [] [(.int .i64 long0)] K = (([] : List Blk).length = 0 ∧ B26 long0 (fun z0 => K [] [(.int .i64 z0)])) := by kernel_rfl
theorem W26_of (hT : AllSound Try.prog pvT pvG T26) : Sound Try.prog pvT pvG 26 W26 := Sound.weak (evF_sound (C := C26) (Base.of pvT_fits pvT_sized pvT_eq hT pvMixed pvIt_ok) Try.func26 (LoopsOk.of (C := C26) (fn := Try.f26) (l := []) (g := []) (by kernel_rfl) rfl (by kernel_rfl) trivial (RestOk.all rfl _) trivial) (evF_to (C := C26) (fun bs t K h0 => by
    unfold P26 at h0
    obtain ⟨long0, r2, rfl, h2⟩ := iI h0
    obtain ⟨rfl, h3⟩ := nilK_inv h2
    obtain ⟨rfl, h4⟩ := bNilK_inv h3
    have h := h4
    refine ⟨_, _, rfl, rfl, ?_⟩
    rw [B26_eq long0 K]
    exact ⟨rfl, h⟩))) _
end Pv

namespace Pv
open Go Go.Proofs

theorem B68_eq (w0 : Int) (K : List Blk → List PV → Prop) : evF C68 Try.f68 [] [(.int .i64 w0)] K = (([] : List Blk).length = 0 ∧ B68 w0 (fun z0 => K [] [(.bool z0)])) := by kernel_rfl
theorem W68_of (hT : AllSound Try.prog pvT pvG T68) : Sound Try.prog pvT pvG 68 W68 := Sound.weak (evF_sound (C := C68) (Base.of pvT_fits pvT_sized pvT_eq hT pvMixed pvIt_ok) Try.func68 (LoopsOk.of (C := C68) (fn := Try.f68) (l := []) (g := []) (by kernel_rfl) rfl (by kernel_rfl) trivial (RestOk.all rfl _) trivial) (evF_to (C := C68) (fun bs t K h0 => by
    unfold P68 at h0
    obtain ⟨w0, r2, rfl, h2⟩ := iI h0
    obtain ⟨rfl, h3⟩ := nilK_inv h2
    obtain ⟨rfl, h4⟩ := bNilK_inv h3
    have h := h4
    refine ⟨_, _, rfl, rfl, ?_⟩
    rw [B68_eq w0 K]
    exact ⟨rfl, h⟩))) _
end Pv
