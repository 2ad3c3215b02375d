/- A part of the proof. No conditions of its own beyond those that its theorems name. -/
import Derived.Test.YthdpkcolbgoecaaStD

namespace Pv
open Go Go.Proofs

theorem J24_15_eq (aa : Nat) (ab : Bool) (ac : Bool) (ad : Int) (ae : Int) (af : Int) (x1 : List PV) (ag : Int) (ah : Int) (ai : Int) (aj : Int) (K : Ex → List PV → List Blk → Prop) : J24_15 aa ab ac ad ae af x1 ag ah ai aj (K .ret (skU 4 ((.ptr 2 55 0 []) :: (.int .i64 0) :: skU 90 [])) [(.box true 64 (.agg [(.sl 1 111 0 aa), (.bool ab), (.bool ac), (.int .i64 ad), (.int .i64 ae), (.int .i64 af)])), (.row true 111 x1), (.box true 55 (.agg [(.int .u64 ag), (.int .i64 ah), (.int .i64 ai), (.int .u32 aj)]))]) = evC C24 (codeOf Try.f24 [1, 1, 1, 1, 1, 1, 1, 1, 1, 1, 1, 1]) (mkSt (skU 4 ((.ptr 2 55 0 []) :: skU 91 [])) [(.box true 64 (.agg [(.sl 1 111 0 aa), (.bool ab), (.bool ac), (.int .i64 ad), (.int .i64 ae), (.int .i64 af)])), (.row true 111 x1), (.box true 55 (.agg [(.int .u64 ag), (.int .i64 ah), (.int .i64 ai), (.int .u32 aj)]))]) (onSt K) := by kernel_rfl
theorem Q24_15_ok : RestOk C24 (codeOf Try.f24 [1, 1, 1, 1, 1, 1, 1, 1, 1, 1, 1, 1]) := RestOk.to (l := Q24_15) (by kernel_rfl) (by
    intro t bs K h0
    unfold Q24_15 at h0
    obtain ⟨r1, rfl, h1⟩ := skipU_inv h0
    obtain ⟨r3, rfl, h3⟩ := pI h1
    obtain ⟨r4, rfl, h4⟩ := skipU_inv h3
    obtain ⟨rfl, h5⟩ := nilK_inv h4
    obtain ⟨r8, r6, rfl, h8⟩ := bA h5
    obtain ⟨aa, r10, rfl, h10⟩ := zI h8
    obtain ⟨ab, r12, rfl, h12⟩ := bI h10
    obtain ⟨ac, r14, rfl, h14⟩ := bI h12
    obtain ⟨ad, r16, rfl, h16⟩ := iI h14
    obtain ⟨ae, r18, rfl, h18⟩ := iI h16
    obtain ⟨af, r20, rfl, h20⟩ := iI h18
    obtain ⟨rfl, h21⟩ := nilK_inv h20
    obtain ⟨x1, r22, rfl, h23⟩ := bR h21
    obtain ⟨r26, r24, rfl, h26⟩ := bA h23
    obtain ⟨ag, r28, rfl, h28⟩ := iI h26
    obtain ⟨ah, r30, rfl, h30⟩ := iI h28
    obtain ⟨ai, r32, rfl, h32⟩ := iI h30
    obtain ⟨aj, r34, rfl, h34⟩ := iI h32
    obtain ⟨rfl, h35⟩ := nilK_inv h34
    obtain ⟨rfl, h36⟩ := bNilK_inv h35
    have h := h36
    refine ⟨_, _, rfl, rfl, ?_⟩
    rw [← J24_15_eq aa ab ac ad ae af x1 ag ah ai aj K]
    exact h)
theorem J24_13_eq (t6 : List PV) (aa : Nat) (ab : Bool) (ac : Bool) (ad : Int) (ae : Int) (af : Int) (x1 : List PV) (ag : Int) (ah : Int) (ai : Int) (aj : Int) (K : Ex → List PV → List Blk → Prop) : J24_13 t6 aa ab ac ad ae af x1 ag ah ai aj (fun z1 z2 z3 z4 z5 z6 z7 z8 z9 z10 z11 => K .ret (skU 4 ((.ptr 2 55 0 []) :: (.int .i64 0) :: skU 90 [])) [(.box true 64 (.agg [(.sl 1 111 0 z1), (.bool z2), (.bool z3), (.int .i64 z4), (.int .i64 z5), (.int .i64 z6)])), (.row true 111 z7), (.box true 55 (.agg [(.int .u64 z8), (.int .i64 z9), (.int .i64 z10), (.int .u32 z11)]))]) = evC C24 (codeOf Try.f24 [1, 1, 1, 1, 1, 1, 1, 1, 1, 1, 1]) (mkSt ((.ptr 0 64 0 []) :: skU 3 ((.ptr 2 55 0 []) :: skU 1 ((.list 5 t6) :: skU 89 []))) [(.box true 64 (.agg [(.sl 1 111 0 aa), (.bool ab), (.bool ac), (.int .i64 ad), (.int .i64 ae), (.int .i64 af)])), (.row true 111 x1), (.box true 55 (.agg [(.int .u64 ag), (.int .i64 ah), (.int .i64 ai), (.int .u32 aj)]))]) (onSt K) := by kernel_rfl
theorem Q24_13_ok : RestOk C24 (codeOf Try.f24 [1, 1, 1, 1, 1, 1, 1, 1, 1, 1, 1]) := RestOk.to (l := Q24_13) (by kernel_rfl) (by
    intro t bs K h0
    unfold Q24_13 at h0
    obtain ⟨r2, rfl, h2⟩ := pI h0
    obtain ⟨r3, rfl, h3⟩ := skipU_inv h2
    obtain ⟨r5, rfl, h5⟩ := pI h3
    obtain ⟨r6, rfl, h6⟩ := skipU_inv h5
    obtain ⟨t6, r8, rfl, h8⟩ := lI h6
    obtain ⟨r9, rfl, h9⟩ := skipU_inv h8
    obtain ⟨rfl, h10⟩ := nilK_inv h9
    obtain ⟨r13, r11, rfl, h13⟩ := bA h10
    obtain ⟨aa, r15, rfl, h15⟩ := zI h13
    obtain ⟨ab, r17, rfl, h17⟩ := bI h15
    obtain ⟨ac, r19, rfl, h19⟩ := bI h17
    obtain ⟨ad, r21, rfl, h21⟩ := iI h19
    obtain ⟨ae, r23, rfl, h23⟩ := iI h21
    obtain ⟨af, r25, rfl, h25⟩ := iI h23
    obtain ⟨rfl, h26⟩ := nilK_inv h25
    obtain ⟨x1, r27, rfl, h28⟩ := bR h26
    obtain ⟨r31, r29, rfl, h31⟩ := bA h28
    obtain ⟨ag, r33, rfl, h33⟩ := iI h31
    obtain ⟨ah, r35, rfl, h35⟩ := iI h33
    obtain ⟨ai, r37, rfl, h37⟩ := iI h35
    obtain ⟨aj, r39, rfl, h39⟩ := iI h37
    obtain ⟨rfl, h40⟩ := nilK_inv h39
    obtain ⟨rfl, h41⟩ := bNilK_inv h40
    have h := h41
    refine ⟨_, _, rfl, rfl, ?_⟩
    rw [← J24_13_eq t6 aa ab ac ad ae af x1 ag ah ai aj K]
    exact h)
theorem J24_12_eq (t6 : List PV) (t8 : Int) (t9 : Int) (aa : Nat) (ab : Bool) (ac : Bool) (ad : Int) (ae : Int) (af : Int) (x1 : List PV) (ag : Int) (ah : Int) (ai : Int) (aj : Int) (K : Ex → List PV → List Blk → Prop) : J24_12 t6 t8 t9 aa ab ac ad ae af x1 ag ah ai aj (fun z1 z2 z3 z4 z5 z6 z7 z8 z9 z10 z11 => K .ret (skU 4 ((.ptr 2 55 0 []) :: (.int .i64 0) :: skU 90 [])) [(.box true 64 (.agg [(.sl 1 111 0 z1), (.bool z2), (.bool z3), (.int .i64 z4), (.int .i64 z5), (.int .i64 z6)])), (.row true 111 z7), (.box true 55 (.agg [(.int .u64 z8), (.int .i64 z9), (.int .i64 z10), (.int .u32 z11)]))]) = evC C24 (codeOf Try.f24 [1, 1, 1, 1, 1, 1, 1, 1, 1, 1]) (mkSt ((.ptr 0 64 0 []) :: skU 3 ((.ptr 2 55 0 []) :: skU 1 ((.list 5 t6) :: skU 1 ((.int .u64 t8) :: (.int .u64 t9) :: skU 86 [])))) [(.box true 64 (.agg [(.sl 1 111 0 aa), (.bool ab), (.bool ac), (.int .i64 ad), (.int .i64 ae), (.int .i64 af)])), (.row true 111 x1), (.box true 55 (.agg [(.int .u64 ag), (.int .i64 ah), (.int .i64 ai), (.int .u32 aj)]))]) (onSt K) := by kernel_rfl
theorem Q24_12_ok : RestOk C24 (codeOf Try.f24 [1, 1, 1, 1, 1, 1, 1, 1, 1, 1]) := RestOk.to (l := Q24_12) (by kernel_rfl) (by
    intro t bs K h0
    unfold Q24_12 at h0
    obtain ⟨r2, rfl, h2⟩ := pI h0
    obtain ⟨r3, rfl, h3⟩ := skipU_inv h2
    obtain ⟨r5, rfl, h5⟩ := pI h3
    obtain ⟨r6, rfl, h6⟩ := skipU_inv h5
    obtain ⟨t6, r8, rfl, h8⟩ := lI h6
    obtain ⟨r9, rfl, h9⟩ := skipU_inv h8
    obtain ⟨t8, r11, rfl, h11⟩ := iI h9
    obtain ⟨t9, r13, rfl, h13⟩ := iI h11
    obtain ⟨r14, rfl, h14⟩ := skipU_inv h13
    obtain ⟨rfl, h15⟩ := nilK_inv h14
    obtain ⟨r18, r16, rfl, h18⟩ := bA h15
    obtain ⟨aa, r20, rfl, h20⟩ := zI h18
    obtain ⟨ab, r22, rfl, h22⟩ := bI h20
    obtain ⟨ac, r24, rfl, h24⟩ := bI h22
    obtain ⟨ad, r26, rfl, h26⟩ := iI h24
    obtain ⟨ae, r28, rfl, h28⟩ := iI h26
    obtain ⟨af, r30, rfl, h30⟩ := iI h28
    obtain ⟨rfl, h31⟩ := nilK_inv h30
    obtain ⟨x1, r32, rfl, h33⟩ := bR h31
    obtain ⟨r36, r34, rfl, h36⟩ := bA h33
    obtain ⟨ag, r38, rfl, h38⟩ := iI h36
    obtain ⟨ah, r40, rfl, h40⟩ := iI h38
    obtain ⟨ai, r42, rfl, h42⟩ := iI h40
    obtain ⟨aj, r44, rfl, h44⟩ := iI h42
    obtain ⟨rfl, h45⟩ := nilK_inv h44
    obtain ⟨rfl, h46⟩ := bNilK_inv h45
    have h := h46
    refine ⟨_, _, rfl, rfl, ?_⟩
    rw [← J24_12_eq t6 t8 t9 aa ab ac ad ae af x1 ag ah ai aj K]
    exact h)
theorem J24_10_eq (t6 : List PV) (t8 : Int) (t9 : Int) (t10 : Int) (aa : Nat) (ab : Bool) (ac : Bool) (ad : Int) (ae : Int) (af : Int) (x1 : List PV) (ag : Int) (ah : Int) (ai : Int) (aj : Int) (K : Ex → List PV → List Blk → Prop) : J24_10 t6 t8 t9 t10 aa ab ac ad ae af x1 ag ah ai aj (fun z1 z2 z3 z4 z5 z6 z7 z8 z9 z10 z11 => K .ret (skU 4 ((.ptr 2 55 0 []) :: (.int .i64 0) :: skU 90 [])) [(.box true 64 (.agg [(.sl 1 111 0 z1), (.bool z2), (.bool z3), (.int .i64 z4), (.int .i64 z5), (.int .i64 z6)])), (.row true 111 z7), (.box true 55 (.agg [(.int .u64 z8), (.int .i64 z9), (.int .i64 z10), (.int .u32 z11)]))]) = evC C24 (codeOf Try.f24 [1, 1, 1, 1, 1, 1, 1, 1, 1]) (mkSt ((.ptr 0 64 0 []) :: skU 3 ((.ptr 2 55 0 []) :: skU 1 ((.list 5 t6) :: skU 1 ((.int .u64 t8) :: (.int .u64 t9) :: (.int .u64 t10) :: skU 85 [])))) [(.box true 64 (.agg [(.sl 1 111 0 aa), (.bool ab), (.bool ac), (.int .i64 ad), (.int .i64 ae), (.int .i64 af)])), (.row true 111 x1), (.box true 55 (.agg [(.int .u64 ag), (.int .i64 ah), (.int .i64 ai), (.int .u32 aj)]))]) (onSt K) := by kernel_rfl
theorem Q24_10_ok : RestOk C24 (codeOf Try.f24 [1, 1, 1, 1, 1, 1, 1, 1, 1]) := RestOk.to (l := Q24_10) (by kernel_rfl) (by
    intro t bs K h0
    unfold Q24_10 at h0
    obtain ⟨r2, rfl, h2⟩ := pI h0
    obtain ⟨r3, rfl, h3⟩ := skipU_inv h2
    obtain ⟨r5, rfl, h5⟩ := pI h3
    obtain ⟨r6, rfl, h6⟩ := skipU_inv h5
    obtain ⟨t6, r8, rfl, h8⟩ := lI h6
    obtain ⟨r9, rfl, h9⟩ := skipU_inv h8
    obtain ⟨t8, r11, rfl, h11⟩ := iI h9
    obtain ⟨t9, r13, rfl, h13⟩ := iI h11
    obtain ⟨t10, r15, rfl, h15⟩ := iI h13
    obtain ⟨r16, rfl, h16⟩ := skipU_inv h15
    obtain ⟨rfl, h17⟩ := nilK_inv h16
    obtain ⟨r20, r18, rfl, h20⟩ := bA h17
    obtain ⟨aa, r22, rfl, h22⟩ := zI h20
    obtain ⟨ab, r24, rfl, h24⟩ := bI h22
    obtain ⟨ac, r26, rfl, h26⟩ := bI h24
    obtain ⟨ad, r28, rfl, h28⟩ := iI h26
    obtain ⟨ae, r30, rfl, h30⟩ := iI h28
    obtain ⟨af, r32, rfl, h32⟩ := iI h30
    obtain ⟨rfl, h33⟩ := nilK_inv h32
    obtain ⟨x1, r34, rfl, h35⟩ := bR h33
    obtain ⟨r38, r36, rfl, h38⟩ := bA h35
    obtain ⟨ag, r40, rfl, h40⟩ := iI h38
    obtain ⟨ah, r42, rfl, h42⟩ := iI h40
    obtain ⟨ai, r44, rfl, h44⟩ := iI h42
    obtain ⟨aj, r46, rfl, h46⟩ := iI h44
    obtain ⟨rfl, h47⟩ := nilK_inv h46
    obtain ⟨rfl, h48⟩ := bNilK_inv h47
    have h := h48
    refine ⟨_, _, rfl, rfl, ?_⟩
    rw [← J24_10_eq t6 t8 t9 t10 aa ab ac ad ae af x1 ag ah ai aj K]
    exact h)
theorem J24_9_eq (t6 : List PV) (t8 : Int) (t9 : Int) (aa : Nat) (ab : Bool) (ac : Bool) (ad : Int) (ae : Int) (af : Int) (x1 : List PV) (ag : Int) (ah : Int) (ai : Int) (aj : Int) (K : Ex → List PV → List Blk → Prop) : J24_9 t6 t8 t9 aa ab ac ad ae af x1 ag ah ai aj (fun z1 z2 z3 z4 z5 z6 z7 z8 z9 z10 z11 => K .ret (skU 4 ((.ptr 2 55 0 []) :: (.int .i64 0) :: skU 90 [])) [(.box true 64 (.agg [(.sl 1 111 0 z1), (.bool z2), (.bool z3), (.int .i64 z4), (.int .i64 z5), (.int .i64 z6)])), (.row true 111 z7), (.box true 55 (.agg [(.int .u64 z8), (.int .i64 z9), (.int .i64 z10), (.int .u32 z11)]))]) = evC C24 (codeOf Try.f24 [1, 1, 1, 1, 1, 1, 1, 1]) (mkSt ((.ptr 0 64 0 []) :: skU 3 ((.ptr 2 55 0 []) :: skU 1 ((.list 5 t6) :: skU 1 ((.int .u64 t8) :: (.int .u64 t9) :: skU 86 [])))) [(.box true 64 (.agg [(.sl 1 111 0 aa), (.bool ab), (.bool ac), (.int .i64 ad), (.int .i64 ae), (.int .i64 af)])), (.row true 111 x1), (.box true 55 (.agg [(.int .u64 ag), (.int .i64 ah), (.int .i64 ai), (.int .u32 aj)]))]) (onSt K) := by kernel_rfl
theorem Q24_9_ok : RestOk C24 (codeOf Try.f24 [1, 1, 1, 1, 1, 1, 1, 1]) := RestOk.to (l := Q24_9) (by kernel_rfl) (by
    intro t bs K h0
    unfold Q24_9 at h0
    obtain ⟨r2, rfl, h2⟩ := pI h0
    obtain ⟨r3, rfl, h3⟩ := skipU_inv h2
    obtain ⟨r5, rfl, h5⟩ := pI h3
    obtain ⟨r6, rfl, h6⟩ := skipU_inv h5
    obtain ⟨t6, r8, rfl, h8⟩ := lI h6
    obtain ⟨r9, rfl, h9⟩ := skipU_inv h8
    obtain ⟨t8, r11, rfl, h11⟩ := iI h9
    obtain ⟨t9, r13, rfl, h13⟩ := iI h11
    obtain ⟨r14, rfl, h14⟩ := skipU_inv h13
    obtain ⟨rfl, h15⟩ := nilK_inv h14
    obtain ⟨r18, r16, rfl, h18⟩ := bA h15
    obtain ⟨aa, r20, rfl, h20⟩ := zI h18
    obtain ⟨ab, r22, rfl, h22⟩ := bI h20
    obtain ⟨ac, r24, rfl, h24⟩ := bI h22
    obtain ⟨ad, r26, rfl, h26⟩ := iI h24
    obtain ⟨ae, r28, rfl, h28⟩ := iI h26
    obtain ⟨af, r30, rfl, h30⟩ := iI h28
    obtain ⟨rfl, h31⟩ := nilK_inv h30
    obtain ⟨x1, r32, rfl, h33⟩ := bR h31
    obtain ⟨r36, r34, rfl, h36⟩ := bA h33
    obtain ⟨ag, r38, rfl, h38⟩ := iI h36
    obtain ⟨ah, r40, rfl, h40⟩ := iI h38
    obtain ⟨ai, r42, rfl, h42⟩ := iI h40
    obtain ⟨aj, r44, rfl, h44⟩ := iI h42
    obtain ⟨rfl, h45⟩ := nilK_inv h44
    obtain ⟨rfl, h46⟩ := bNilK_inv h45
    have h := h46
    refine ⟨_, _, rfl, rfl, ?_⟩
    rw [← J24_9_eq t6 t8 t9 aa ab ac ad ae af x1 ag ah ai aj K]
    exact h)
theorem J24_8_eq (t6 : List PV) (t8 : Int) (t9 : Int) (aa : Nat) (ab : Bool) (ac : Bool) (ad : Int) (ae : Int) (af : Int) (x1 : List PV) (ag : Int) (ah : Int) (ai : Int) (aj : Int) (ak : List PV) (al : Bool) (am : Bool) (K : Ex → List PV → List Blk → Prop) : J24_8 t6 t8 t9 aa ab ac ad ae af x1 ag ah ai aj ak al am (fun z1 z2 z3 z4 z5 z6 z7 z8 z9 z10 z11 => K .ret (skU 4 ((.ptr 2 55 0 []) :: (.int .i64 0) :: skU 90 [])) [(.box true 64 (.agg [(.sl 1 111 0 z1), (.bool z2), (.bool z3), (.int .i64 z4), (.int .i64 z5), (.int .i64 z6)])), (.row true 111 z7), (.box true 55 (.agg [(.int .u64 z8), (.int .i64 z9), (.int .i64 z10), (.int .u32 z11)]))]) = evC C24 (codeOf Try.f24 [1, 1, 1, 1, 1, 1, 1]) (mkSt ((.ptr 0 64 0 []) :: skU 3 ((.ptr 2 55 0 []) :: skU 1 ((.list 5 t6) :: (.ptr 3 132 0 []) :: (.int .u64 t8) :: (.int .u64 t9) :: skU 86 []))) [(.box true 64 (.agg [(.sl 1 111 0 aa), (.bool ab), (.bool ac), (.int .i64 ad), (.int .i64 ae), (.int .i64 af)])), (.row true 111 x1), (.box true 55 (.agg [(.int .u64 ag), (.int .i64 ah), (.int .i64 ai), (.int .u32 aj)])), (.box true 132 (.agg [(.list 5 ak), (.bool al), (.bool am)]))]) (onSt K) := by kernel_rfl
theorem Q24_8_ok : RestOk C24 (codeOf Try.f24 [1, 1, 1, 1, 1, 1, 1]) := RestOk.to (l := Q24_8) (by kernel_rfl) (by
    intro t bs K h0
    unfold Q24_8 at h0
    obtain ⟨r2, rfl, h2⟩ := pI h0
    obtain ⟨r3, rfl, h3⟩ := skipU_inv h2
    obtain ⟨r5, rfl, h5⟩ := pI h3
    obtain ⟨r6, rfl, h6⟩ := skipU_inv h5
    obtain ⟨t6, r8, rfl, h8⟩ := lI h6
    obtain ⟨r10, rfl, h10⟩ := pI h8
    obtain ⟨t8, r12, rfl, h12⟩ := iI h10
    obtain ⟨t9, r14, rfl, h14⟩ := iI h12
    obtain ⟨r15, rfl, h15⟩ := skipU_inv h14
    obtain ⟨rfl, h16⟩ := nilK_inv h15
    obtain ⟨r19, r17, rfl, h19⟩ := bA h16
    obtain ⟨aa, r21, rfl, h21⟩ := zI h19
    obtain ⟨ab, r23, rfl, h23⟩ := bI h21
    obtain ⟨ac, r25, rfl, h25⟩ := bI h23
    obtain ⟨ad, r27, rfl, h27⟩ := iI h25
    obtain ⟨ae, r29, rfl, h29⟩ := iI h27
    obtain ⟨af, r31, rfl, h31⟩ := iI h29
    obtain ⟨rfl, h32⟩ := nilK_inv h31
    obtain ⟨x1, r33, rfl, h34⟩ := bR h32
    obtain ⟨r37, r35, rfl, h37⟩ := bA h34
    obtain ⟨ag, r39, rfl, h39⟩ := iI h37
    obtain ⟨ah, r41, rfl, h41⟩ := iI h39
    obtain ⟨ai, r43, rfl, h43⟩ := iI h41
    obtain ⟨aj, r45, rfl, h45⟩ := iI h43
    obtain ⟨rfl, h46⟩ := nilK_inv h45
    obtain ⟨r49, r47, rfl, h49⟩ := bA h46
    obtain ⟨ak, r51, rfl, h51⟩ := lI h49
    obtain ⟨al, r53, rfl, h53⟩ := bI h51
    obtain ⟨am, r55, rfl, h55⟩ := bI h53
    obtain ⟨rfl, h56⟩ := nilK_inv h55
    obtain ⟨rfl, h57⟩ := bNilK_inv h56
    have h := h57
    refine ⟨_, _, rfl, rfl, ?_⟩
    rw [← J24_8_eq t6 t8 t9 aa ab ac ad ae af x1 ag ah ai aj ak al am K]
    exact h)
theorem J24_7_eq (t6 : List PV) (aa : Nat) (ab : Bool) (ac : Bool) (ad : Int) (ae : Int) (af : Int) (x1 : List PV) (ag : Int) (ah : Int) (ai : Int) (aj : Int) (ak : List PV) (al : Bool) (am : Bool) (K : Ex → List PV → List Blk → Prop) : J24_7 t6 aa ab ac ad ae af x1 ag ah ai aj ak al am (fun z1 z2 z3 z4 z5 z6 z7 z8 z9 z10 z11 => K .ret (skU 4 ((.ptr 2 55 0 []) :: (.int .i64 0) :: skU 90 [])) [(.box true 64 (.agg [(.sl 1 111 0 z1), (.bool z2), (.bool z3), (.int .i64 z4), (.int .i64 z5), (.int .i64 z6)])), (.row true 111 z7), (.box true 55 (.agg [(.int .u64 z8), (.int .i64 z9), (.int .i64 z10), (.int .u32 z11)]))]) = evC C24 (codeOf Try.f24 [1, 1, 1, 1, 1, 1]) (mkSt ((.ptr 0 64 0 []) :: skU 3 ((.ptr 2 55 0 []) :: skU 1 ((.list 5 t6) :: (.ptr 3 132 0 []) :: skU 88 []))) [(.box true 64 (.agg [(.sl 1 111 0 aa), (.bool ab), (.bool ac), (.int .i64 ad), (.int .i64 ae), (.int .i64 af)])), (.row true 111 x1), (.box true 55 (.agg [(.int .u64 ag), (.int .i64 ah), (.int .i64 ai), (.int .u32 aj)])), (.box true 132 (.agg [(.list 5 ak), (.bool al), (.bool am)]))]) (onSt K) := by kernel_rfl
theorem Q24_7_ok : RestOk C24 (codeOf Try.f24 [1, 1, 1, 1, 1, 1]) := RestOk.to (l := Q24_7) (by kernel_rfl) (by
    intro t bs K h0
    unfold Q24_7 at h0
    obtain ⟨r2, rfl, h2⟩ := pI h0
    obtain ⟨r3, rfl, h3⟩ := skipU_inv h2
    obtain ⟨r5, rfl, h5⟩ := pI h3
    obtain ⟨r6, rfl, h6⟩ := skipU_inv h5
    obtain ⟨t6, r8, rfl, h8⟩ := lI h6
    obtain ⟨r10, rfl, h10⟩ := pI h8
    obtain ⟨r11, rfl, h11⟩ := skipU_inv h10
    obtain ⟨rfl, h12⟩ := nilK_inv h11
    obtain ⟨r15, r13, rfl, h15⟩ := bA h12
    obtain ⟨aa, r17, rfl, h17⟩ := zI h15
    obtain ⟨ab, r19, rfl, h19⟩ := bI h17
    obtain ⟨ac, r21, rfl, h21⟩ := bI h19
    obtain ⟨ad, r23, rfl, h23⟩ := iI h21
    obtain ⟨ae, r25, rfl, h25⟩ := iI h23
    obtain ⟨af, r27, rfl, h27⟩ := iI h25
    obtain ⟨rfl, h28⟩ := nilK_inv h27
    obtain ⟨x1, r29, rfl, h30⟩ := bR h28
    obtain ⟨r33, r31, rfl, h33⟩ := bA h30
    obtain ⟨ag, r35, rfl, h35⟩ := iI h33
    obtain ⟨ah, r37, rfl, h37⟩ := iI h35
    obtain ⟨ai, r39, rfl, h39⟩ := iI h37
    obtain ⟨aj, r41, rfl, h41⟩ := iI h39
    obtain ⟨rfl, h42⟩ := nilK_inv h41
    obtain ⟨r45, r43, rfl, h45⟩ := bA h42
    obtain ⟨ak, r47, rfl, h47⟩ := lI h45
    obtain ⟨al, r49, rfl, h49⟩ := bI h47
    obtain ⟨am, r51, rfl, h51⟩ := bI h49
    obtain ⟨rfl, h52⟩ := nilK_inv h51
    obtain ⟨rfl, h53⟩ := bNilK_inv h52
    have h := h53
    refine ⟨_, _, rfl, rfl, ?_⟩
    rw [← J24_7_eq t6 aa ab ac ad ae af x1 ag ah ai aj ak al am K]
    exact h)
theorem J24_6_eq (t6 : List PV) (aa : Nat) (ab : Bool) (ac : Bool) (ad : Int) (ae : Int) (af : Int) (x1 : List PV) (ag : Int) (ah : Int) (ai : Int) (aj : Int) (ak : List PV) (al : Bool) (am : Bool) (K : Ex → List PV → List Blk → Prop) : J24_6 t6 aa ab ac ad ae af x1 ag ah ai aj ak al am (fun z1 z2 z3 z4 z5 z6 z7 z8 z9 z10 z11 => K .ret (skU 4 ((.ptr 2 55 0 []) :: (.int .i64 0) :: skU 90 [])) [(.box true 64 (.agg [(.sl 1 111 0 z1), (.bool z2), (.bool z3), (.int .i64 z4), (.int .i64 z5), (.int .i64 z6)])), (.row true 111 z7), (.box true 55 (.agg [(.int .u64 z8), (.int .i64 z9), (.int .i64 z10), (.int .u32 z11)]))]) = evC C24 (codeOf Try.f24 [1, 1, 1, 1, 1]) (mkSt ((.ptr 0 64 0 []) :: skU 3 ((.ptr 2 55 0 []) :: skU 1 ((.list 5 t6) :: (.ptr 3 132 0 []) :: skU 88 []))) [(.box true 64 (.agg [(.sl 1 111 0 aa), (.bool ab), (.bool ac), (.int .i64 ad), (.int .i64 ae), (.int .i64 af)])), (.row true 111 x1), (.box true 55 (.agg [(.int .u64 ag), (.int .i64 ah), (.int .i64 ai), (.int .u32 aj)])), (.box true 132 (.agg [(.list 5 ak), (.bool al), (.bool am)]))]) (onSt K) := by kernel_rfl
theorem Q24_6_ok : RestOk C24 (codeOf Try.f24 [1, 1, 1, 1, 1]) := RestOk.to (l := Q24_6) (by kernel_rfl) (by
    intro t bs K h0
    unfold Q24_6 at h0
    obtain ⟨r2, rfl, h2⟩ := pI h0
    obtain ⟨r3, rfl, h3⟩ := skipU_inv h2
    obtain ⟨r5, rfl, h5⟩ := pI h3
    obtain ⟨r6, rfl, h6⟩ := skipU_inv h5
    obtain ⟨t6, r8, rfl, h8⟩ := lI h6
    obtain ⟨r10, rfl, h10⟩ := pI h8
    obtain ⟨r11, rfl, h11⟩ := skipU_inv h10
    obtain ⟨rfl, h12⟩ := nilK_inv h11
    obtain ⟨r15, r13, rfl, h15⟩ := bA h12
    obtain ⟨aa, r17, rfl, h17⟩ := zI h15
    obtain ⟨ab, r19, rfl, h19⟩ := bI h17
    obtain ⟨ac, r21, rfl, h21⟩ := bI h19
    obtain ⟨ad, r23, rfl, h23⟩ := iI h21
    obtain ⟨ae, r25, rfl, h25⟩ := iI h23
    obtain ⟨af, r27, rfl, h27⟩ := iI h25
    obtain ⟨rfl, h28⟩ := nilK_inv h27
    obtain ⟨x1, r29, rfl, h30⟩ := bR h28
    obtain ⟨r33, r31, rfl, h33⟩ := bA h30
    obtain ⟨ag, r35, rfl, h35⟩ := iI h33
    obtain ⟨ah, r37, rfl, h37⟩ := iI h35
    obtain ⟨ai, r39, rfl, h39⟩ := iI h37
    obtain ⟨aj, r41, rfl, h41⟩ := iI h39
    obtain ⟨rfl, h42⟩ := nilK_inv h41
    obtain ⟨r45, r43, rfl, h45⟩ := bA h42
    obtain ⟨ak, r47, rfl, h47⟩ := lI h45
    obtain ⟨al, r49, rfl, h49⟩ := bI h47
    obtain ⟨am, r51, rfl, h51⟩ := bI h49
    obtain ⟨rfl, h52⟩ := nilK_inv h51
    obtain ⟨rfl, h53⟩ := bNilK_inv h52
    have h := h53
    refine ⟨_, _, rfl, rfl, ?_⟩
    rw [← J24_6_eq t6 aa ab ac ad ae af x1 ag ah ai aj ak al am K]
    exact h)
theorem J24_5_eq (t6 : List PV) (aa : Nat) (ab : Bool) (ac : Bool) (ad : Int) (ae : Int) (af : Int) (x1 : List PV) (ag : Int) (ah : Int) (ai : Int) (aj : Int) (ak : List PV) (al : Bool) (am : Bool) (K : Ex → List PV → List Blk → Prop) : J24_5 t6 aa ab ac ad ae af x1 ag ah ai aj ak al am (fun z1 z2 z3 z4 z5 z6 z7 z8 z9 z10 z11 => K .ret (skU 4 ((.ptr 2 55 0 []) :: (.int .i64 0) :: skU 90 [])) [(.box true 64 (.agg [(.sl 1 111 0 z1), (.bool z2), (.bool z3), (.int .i64 z4), (.int .i64 z5), (.int .i64 z6)])), (.row true 111 z7), (.box true 55 (.agg [(.int .u64 z8), (.int .i64 z9), (.int .i64 z10), (.int .u32 z11)]))]) = evC C24 (codeOf Try.f24 [1, 1, 1, 1]) (mkSt ((.ptr 0 64 0 []) :: skU 3 ((.ptr 2 55 0 []) :: skU 1 ((.list 5 t6) :: (.ptr 3 132 0 []) :: skU 88 []))) [(.box true 64 (.agg [(.sl 1 111 0 aa), (.bool ab), (.bool ac), (.int .i64 ad), (.int .i64 ae), (.int .i64 af)])), (.row true 111 x1), (.box true 55 (.agg [(.int .u64 ag), (.int .i64 ah), (.int .i64 ai), (.int .u32 aj)])), (.box true 132 (.agg [(.list 5 ak), (.bool al), (.bool am)]))]) (onSt K) := by kernel_rfl
theorem Q24_5_ok : RestOk C24 (codeOf Try.f24 [1, 1, 1, 1]) := RestOk.to (l := Q24_5) (by kernel_rfl) (by
    intro t bs K h0
    unfold Q24_5 at h0
    obtain ⟨r2, rfl, h2⟩ := pI h0
    obtain ⟨r3, rfl, h3⟩ := skipU_inv h2
    obtain ⟨r5, rfl, h5⟩ := pI h3
    obtain ⟨r6, rfl, h6⟩ := skipU_inv h5
    obtain ⟨t6, r8, rfl, h8⟩ := lI h6
    obtain ⟨r10, rfl, h10⟩ := pI h8
    obtain ⟨r11, rfl, h11⟩ := skipU_inv h10
    obtain ⟨rfl, h12⟩ := nilK_inv h11
    obtain ⟨r15, r13, rfl, h15⟩ := bA h12
    obtain ⟨aa, r17, rfl, h17⟩ := zI h15
    obtain ⟨ab, r19, rfl, h19⟩ := bI h17
    obtain ⟨ac, r21, rfl, h21⟩ := bI h19
    obtain ⟨ad, r23, rfl, h23⟩ := iI h21
    obtain ⟨ae, r25, rfl, h25⟩ := iI h23
    obtain ⟨af, r27, rfl, h27⟩ := iI h25
    obtain ⟨rfl, h28⟩ := nilK_inv h27
    obtain ⟨x1, r29, rfl, h30⟩ := bR h28
    obtain ⟨r33, r31, rfl, h33⟩ := bA h30
    obtain ⟨ag, r35, rfl, h35⟩ := iI h33
    obtain ⟨ah, r37, rfl, h37⟩ := iI h35
    obtain ⟨ai, r39, rfl, h39⟩ := iI h37
    obtain ⟨aj, r41, rfl, h41⟩ := iI h39
    obtain ⟨rfl, h42⟩ := nilK_inv h41
    obtain ⟨r45, r43, rfl, h45⟩ := bA h42
    obtain ⟨ak, r47, rfl, h47⟩ := lI h45
    obtain ⟨al, r49, rfl, h49⟩ := bI h47
    obtain ⟨am, r51, rfl, h51⟩ := bI h49
    obtain ⟨rfl, h52⟩ := nilK_inv h51
    obtain ⟨rfl, h53⟩ := bNilK_inv h52
    have h := h53
    refine ⟨_, _, rfl, rfl, ?_⟩
    rw [← J24_5_eq t6 aa ab ac ad ae af x1 ag ah ai aj ak al am K]
    exact h)
theorem J24_4_eq (t5 : Int) (t6 : List PV) (aa : Nat) (ab : Bool) (ac : Bool) (ad : Int) (ae : Int) (af : Int) (x1 : List PV) (ag : Int) (ah : Int) (ai : Int) (aj : Int) (K : Ex → List PV → List Blk → Prop) : J24_4 t5 t6 aa ab ac ad ae af x1 ag ah ai aj (fun z1 z2 z3 z4 z5 z6 z7 z8 z9 z10 z11 => K .ret (skU 4 ((.ptr 2 55 0 []) :: (.int .i64 0) :: skU 90 [])) [(.box true 64 (.agg [(.sl 1 111 0 z1), (.bool z2), (.bool z3), (.int .i64 z4), (.int .i64 z5), (.int .i64 z6)])), (.row true 111 z7), (.box true 55 (.agg [(.int .u64 z8), (.int .i64 z9), (.int .i64 z10), (.int .u32 z11)]))]) = evC C24 (codeOf Try.f24 [1, 1, 1]) (mkSt ((.ptr 0 64 0 []) :: skU 3 ((.ptr 2 55 0 []) :: (.int .i64 t5) :: (.list 5 t6) :: skU 89 [])) [(.box true 64 (.agg [(.sl 1 111 0 aa), (.bool ab), (.bool ac), (.int .i64 ad), (.int .i64 ae), (.int .i64 af)])), (.row true 111 x1), (.box true 55 (.agg [(.int .u64 ag), (.int .i64 ah), (.int .i64 ai), (.int .u32 aj)]))]) (onSt K) := by kernel_rfl
theorem Q24_4_ok : RestOk C24 (codeOf Try.f24 [1, 1, 1]) := RestOk.to (l := Q24_4) (by kernel_rfl) (by
    intro t bs K h0
    unfold Q24_4 at h0
    obtain ⟨r2, rfl, h2⟩ := pI h0
    obtain ⟨r3, rfl, h3⟩ := skipU_inv h2
    obtain ⟨r5, rfl, h5⟩ := pI h3
    obtain ⟨t5, r7, rfl, h7⟩ := iI h5
    obtain ⟨t6, r9, rfl, h9⟩ := lI h7
    obtain ⟨r10, rfl, h10⟩ := skipU_inv h9
    obtain ⟨rfl, h11⟩ := nilK_inv h10
    obtain ⟨r14, r12, rfl, h14⟩ := bA h11
    obtain ⟨aa, r16, rfl, h16⟩ := zI h14
    obtain ⟨ab, r18, rfl, h18⟩ := bI h16
    obtain ⟨ac, r20, rfl, h20⟩ := bI h18
    obtain ⟨ad, r22, rfl, h22⟩ := iI h20
    obtain ⟨ae, r24, rfl, h24⟩ := iI h22
    obtain ⟨af, r26, rfl, h26⟩ := iI h24
    obtain ⟨rfl, h27⟩ := nilK_inv h26
    obtain ⟨x1, r28, rfl, h29⟩ := bR h27
    obtain ⟨r32, r30, rfl, h32⟩ := bA h29
    obtain ⟨ag, r34, rfl, h34⟩ := iI h32
    obtain ⟨ah, r36, rfl, h36⟩ := iI h34
    obtain ⟨ai, r38, rfl, h38⟩ := iI h36
    obtain ⟨aj, r40, rfl, h40⟩ := iI h38
    obtain ⟨rfl, h41⟩ := nilK_inv h40
    obtain ⟨rfl, h42⟩ := bNilK_inv h41
    have h := h42
    refine ⟨_, _, rfl, rfl, ?_⟩
    rw [← J24_4_eq t5 t6 aa ab ac ad ae af x1 ag ah ai aj K]
    exact h)
theorem J24_2_eq (t5 : Int) (t6 : List PV) (aa : Nat) (ab : Bool) (ac : Bool) (ad : Int) (ae : Int) (af : Int) (x1 : List PV) (ag : Int) (ah : Int) (ai : Int) (aj : Int) (K : Ex → List PV → List Blk → Prop) : J24_2 t5 t6 aa ab ac ad ae af x1 ag ah ai aj (fun z0 z1 z2 z3 z4 z5 z6 z7 z8 z9 z10 z11 => K .ret (skU 4 ((.ptr 2 55 0 []) :: (.int .i64 z0) :: skU 90 [])) [(.box true 64 (.agg [(.sl 1 111 0 z1), (.bool z2), (.bool z3), (.int .i64 z4), (.int .i64 z5), (.int .i64 z6)])), (.row true 111 z7), (.box true 55 (.agg [(.int .u64 z8), (.int .i64 z9), (.int .i64 z10), (.int .u32 z11)]))]) = evC C24 (codeOf Try.f24 [1, 1]) (mkSt ((.ptr 0 64 0 []) :: skU 3 ((.ptr 2 55 0 []) :: (.int .i64 t5) :: (.list 5 t6) :: skU 89 [])) [(.box true 64 (.agg [(.sl 1 111 0 aa), (.bool ab), (.bool ac), (.int .i64 ad), (.int .i64 ae), (.int .i64 af)])), (.row true 111 x1), (.box true 55 (.agg [(.int .u64 ag), (.int .i64 ah), (.int .i64 ai), (.int .u32 aj)]))]) (onSt K) := by kernel_rfl
theorem Q24_2_ok : RestOk C24 (codeOf Try.f24 [1, 1]) := RestOk.to (l := Q24_2) (by kernel_rfl) (by
    intro t bs K h0
    unfold Q24_2 at h0
    obtain ⟨r2, rfl, h2⟩ := pI h0
    obtain ⟨r3, rfl, h3⟩ := skipU_inv h2
    obtain ⟨r5, rfl, h5⟩ := pI h3
    obtain ⟨t5, r7, rfl, h7⟩ := iI h5
    obtain ⟨t6, r9, rfl, h9⟩ := lI h7
    obtain ⟨r10, rfl, h10⟩ := skipU_inv h9
    obtain ⟨rfl, h11⟩ := nilK_inv h10
    obtain ⟨r14, r12, rfl, h14⟩ := bA h11
    obtain ⟨aa, r16, rfl, h16⟩ := zI h14
    obtain ⟨ab, r18, rfl, h18⟩ := bI h16
    obtain ⟨ac, r20, rfl, h20⟩ := bI h18
    obtain ⟨ad, r22, rfl, h22⟩ := iI h20
    obtain ⟨ae, r24, rfl, h24⟩ := iI h22
    obtain ⟨af, r26, rfl, h26⟩ := iI h24
    obtain ⟨rfl, h27⟩ := nilK_inv h26
    obtain ⟨x1, r28, rfl, h29⟩ := bR h27
    obtain ⟨r32, r30, rfl, h32⟩ := bA h29
    obtain ⟨ag, r34, rfl, h34⟩ := iI h32
    obtain ⟨ah, r36, rfl, h36⟩ := iI h34
    obtain ⟨ai, r38, rfl, h38⟩ := iI h36
    obtain ⟨aj, r40, rfl, h40⟩ := iI h38
    obtain ⟨rfl, h41⟩ := nilK_inv h40
    obtain ⟨rfl, h42⟩ := bNilK_inv h41
    have h := h42
    refine ⟨_, _, rfl, rfl, ?_⟩
    rw [← J24_2_eq t5 t6 aa ab ac ad ae af x1 ag ah ai aj K]
    exact h)
theorem J24_1_eq (t1 : Int) (aa : Nat) (ab : Bool) (ac : Bool) (ad : Int) (ae : Int) (af : Int) (x1 : List PV) (ag : Int) (ah : Int) (ai : Int) (aj : Int) (K : Ex → List PV → List Blk → Prop) : J24_1 t1 aa ab ac ad ae af x1 ag ah ai aj (fun z0 z1 z2 z3 z4 z5 z6 z7 z8 z9 z10 z11 => K .ret (skU 4 ((.ptr 2 55 0 []) :: (.int .i64 z0) :: skU 90 [])) [(.box true 64 (.agg [(.sl 1 111 0 z1), (.bool z2), (.bool z3), (.int .i64 z4), (.int .i64 z5), (.int .i64 z6)])), (.row true 111 z7), (.box true 55 (.agg [(.int .u64 z8), (.int .i64 z9), (.int .i64 z10), (.int .u32 z11)]))]) = evC C24 (codeOf Try.f24 [1]) (mkSt ((.ptr 0 64 0 []) :: (.int .i64 t1) :: skU 2 ((.ptr 2 55 0 []) :: skU 91 [])) [(.box true 64 (.agg [(.sl 1 111 0 aa), (.bool ab), (.bool ac), (.int .i64 ad), (.int .i64 ae), (.int .i64 af)])), (.row true 111 x1), (.box true 55 (.agg [(.int .u64 ag), (.int .i64 ah), (.int .i64 ai), (.int .u32 aj)]))]) (onSt K) := by kernel_rfl
theorem Q24_1_ok : RestOk C24 (codeOf Try.f24 [1]) := RestOk.to (l := Q24_1) (by kernel_rfl) (by
    intro t bs K h0
    unfold Q24_1 at h0
    obtain ⟨r2, rfl, h2⟩ := pI h0
    obtain ⟨t1, r4, rfl, h4⟩ := iI h2
    obtain ⟨r5, rfl, h5⟩ := skipU_inv h4
    obtain ⟨r7, rfl, h7⟩ := pI h5
    obtain ⟨r8, rfl, h8⟩ := skipU_inv h7
    obtain ⟨rfl, h9⟩ := nilK_inv h8
    obtain ⟨r12, r10, rfl, h12⟩ := bA h9
    obtain ⟨aa, r14, rfl, h14⟩ := zI h12
    obtain ⟨ab, r16, rfl, h16⟩ := bI h14
    obtain ⟨ac, r18, rfl, h18⟩ := bI h16
    obtain ⟨ad, r20, rfl, h20⟩ := iI h18
    obtain ⟨ae, r22, rfl, h22⟩ := iI h20
    obtain ⟨af, r24, rfl, h24⟩ := iI h22
    obtain ⟨rfl, h25⟩ := nilK_inv h24
    obtain ⟨x1, r26, rfl, h27⟩ := bR h25
    obtain ⟨r30, r28, rfl, h30⟩ := bA h27
    obtain ⟨ag, r32, rfl, h32⟩ := iI h30
    obtain ⟨ah, r34, rfl, h34⟩ := iI h32
    obtain ⟨ai, r36, rfl, h36⟩ := iI h34
    obtain ⟨aj, r38, rfl, h38⟩ := iI h36
    obtain ⟨rfl, h39⟩ := nilK_inv h38
    obtain ⟨rfl, h40⟩ := bNilK_inv h39
    have h := h40
    refine ⟨_, _, rfl, rfl, ?_⟩
    rw [← J24_1_eq t1 aa ab ac ad ae af x1 ag ah ai aj K]
    exact h)
theorem B24_eq (uat : Int) (dn : Nat) (off : Bool) (cut : Bool) (whole : Int) (kept : Int) (writes : Int) (secs : List PV) (K : List Blk → List PV → Prop) : evF C24 Try.f24 [(.box true 64 (.agg [(.sl 1 111 0 dn), (.bool off), (.bool cut), (.int .i64 whole), (.int .i64 kept), (.int .i64 writes)])), (.row true 111 secs)] [(.ptr 0 64 0 []), (.int .i64 uat)] K = (([(.box true 64 (.agg [(.sl 1 111 0 dn), (.bool off), (.bool cut), (.int .i64 whole), (.int .i64 kept), (.int .i64 writes)])), (.row true 111 secs)] : List Blk).length = 2 ∧ B24 uat dn off cut whole kept writes secs (fun z0 z1 z2 z3 z4 z5 z6 z7 z8 z9 z10 z11 => K [(.box true 64 (.agg [(.sl 1 111 0 z5), (.bool z6), (.bool z7), (.int .i64 z8), (.int .i64 z9), (.int .i64 z10)])), (.row true 111 z11)] [(.agg [(.int .u64 z0), (.int .i64 z1), (.int .i64 z2), (.int .u32 z3)]), (.int .i64 z4)])) := by kernel_rfl
theorem W24_of (hT : AllSound Try.prog pvT pvG T24) : Sound Try.prog pvT pvG 24 W24 := Sound.weak (evF_sound (C := C24) (Base.of pvT_fits pvT_sized pvT_eq hT pvMixed pvIt_ok) Try.func24 (LoopsOk.of (C := C24) (fn := Try.f24) (l := []) (r := [codeOf Try.f24 [1], codeOf Try.f24 [1, 1], codeOf Try.f24 [1, 1, 1], codeOf Try.f24 [1, 1, 0, 1], codeOf Try.f24 [1, 1, 0, 1, 0, 1], codeOf Try.f24 [1, 1, 1, 1], codeOf Try.f24 [1, 1, 1, 1, 1], codeOf Try.f24 [1, 1, 1, 1, 1, 1], codeOf Try.f24 [1, 1, 1, 1, 1, 1, 1], codeOf Try.f24 [1, 1, 1, 1, 1, 1, 1, 1], codeOf Try.f24 [1, 1, 1, 1, 1, 1, 1, 1, 1], codeOf Try.f24 [1, 1, 1, 1, 1, 1, 1, 1, 1, 1], codeOf Try.f24 [1, 1, 1, 1, 1, 1, 1, 1, 1, 0, 1], codeOf Try.f24 [1, 1, 1, 1, 1, 1, 1, 1, 1, 0, 1, 0, 1], codeOf Try.f24 [1, 1, 1, 1, 1, 1, 1, 1, 1, 1, 1], codeOf Try.f24 [1, 1, 1, 1, 1, 1, 1, 1, 1, 1, 1, 1], codeOf Try.f24 [1, 1, 1, 1, 1, 1, 1, 1, 1, 1, 1, 0, 1], codeOf Try.f24 [1, 1, 1, 1, 1, 1, 1, 1, 1, 1, 1, 0, 1, 0, 1], codeOf Try.f24 [1, 1, 1, 1, 1, 1, 1, 1, 1, 1, 1, 1, 1]]) (g := []) (by kernel_rfl) (by kernel_rfl) (by kernel_rfl) trivial ⟨Q24_1_ok, ⟨Q24_2_ok, ⟨Q24_4_ok, ⟨(RestOk.none (by kernel_rfl)), ⟨(RestOk.none (by kernel_rfl)), ⟨Q24_5_ok, ⟨Q24_6_ok, ⟨Q24_7_ok, ⟨Q24_8_ok, ⟨Q24_9_ok, ⟨Q24_10_ok, ⟨Q24_12_ok, ⟨(RestOk.none (by kernel_rfl)), ⟨(RestOk.none (by kernel_rfl)), ⟨Q24_13_ok, ⟨Q24_15_ok, ⟨(RestOk.none (by kernel_rfl)), ⟨(RestOk.none (by kernel_rfl)), ⟨(RestOk.none (by kernel_rfl)), trivial⟩⟩⟩⟩⟩⟩⟩⟩⟩⟩⟩⟩⟩⟩⟩⟩⟩⟩⟩ trivial) (evF_to (C := C24) (fun bs t K h0 => by
    unfold P24 at h0
    obtain ⟨r2, rfl, h2⟩ := pI h0
    obtain ⟨uat, r4, rfl, h4⟩ := iI h2
    obtain ⟨rfl, h5⟩ := nilK_inv h4
    obtain ⟨r8, r6, rfl, h8⟩ := bA h5
    obtain ⟨dn, r10, rfl, h10⟩ := zI h8
    obtain ⟨off, r12, rfl, h12⟩ := bI h10
    obtain ⟨cut, r14, rfl, h14⟩ := bI h12
    obtain ⟨whole, r16, rfl, h16⟩ := iI h14
    obtain ⟨kept, r18, rfl, h18⟩ := iI h16
    obtain ⟨writes, r20, rfl, h20⟩ := iI h18
    obtain ⟨rfl, h21⟩ := nilK_inv h20
    obtain ⟨secs, r22, rfl, h23⟩ := bR h21
    obtain ⟨rfl, h24⟩ := bNilK_inv h23
    have h := h24
    refine ⟨_, _, rfl, rfl, ?_⟩
    rw [B24_eq uat dn off cut whole kept writes secs K]
    exact ⟨rfl, h⟩))) _
end Pv

namespace Pv
open Go Go.Proofs

theorem J34_6_eq (from6 : Int) (to7 : Int) (aa : Int) (ab : Int) (ac : Int) (ad : Int) (ae : Int) (af : Int) (ag : Bool) (ah : Nat) (ai : Bool) (aj : Bool) (ak : Int) (al : Int) (am : Int) (x2 : List PV) (x3 : List PV) (K : Ex → List PV → List Blk → Prop) : J34_6 from6 to7 aa ab ac ad ae af ag ah ai aj ak al am x2 x3 (fun z1 z9 z10 z11 z12 z13 z14 z16 => K .ret (skU 4 ((.int .i64 to7) :: (.int .i64 z1) :: skU 43 [])) [(.box true 57 (.agg [(.ptr 1 64 0 []), (.mapr 2), (.agg [(.int .u64 aa), (.int .i64 ab), (.int .i64 ac), (.int .u32 ad)]), (.int .i64 ae), (.int .u64 af), (.bool ag)])), (.box true 64 (.agg [(.sl 3 111 0 z9), (.bool z10), (.bool z11), (.int .i64 z12), (.int .i64 z13), (.int .i64 z14)])), (.map false 9 77 x2), (.row true 111 z16)]) = evC C34 (codeOf Try.f34 [1, 1, 1, 1]) (mkSt ((.ptr 0 57 0 []) :: skU 5 ((.int .i64 from6) :: (.int .i64 to7) :: skU 41 [])) [(.box true 57 (.agg [(.ptr 1 64 0 []), (.mapr 2), (.agg [(.int .u64 aa), (.int .i64 ab), (.int .i64 ac), (.int .u32 ad)]), (.int .i64 ae), (.int .u64 af), (.bool ag)])), (.box true 64 (.agg [(.sl 3 111 0 ah), (.bool ai), (.bool aj), (.int .i64 ak), (.int .i64 al), (.int .i64 am)])), (.map false 9 77 x2), (.row true 111 x3)]) (onSt K) := by kernel_rfl
theorem Q34_6_ok : RestOk C34 (codeOf Try.f34 [1, 1, 1, 1]) := RestOk.to (l := Q34_6) (by kernel_rfl) (by
    intro t bs K h0
    unfold Q34_6 at h0
    obtain ⟨r2, rfl, h2⟩ := pI h0
    obtain ⟨r3, rfl, h3⟩ := skipU_inv h2
    obtain ⟨from6, r5, rfl, h5⟩ := iI h3
    obtain ⟨to7, r7, rfl, h7⟩ := iI h5
    obtain ⟨r8, rfl, h8⟩ := skipU_inv h7
    obtain ⟨rfl, h9⟩ := nilK_inv h8
    obtain ⟨r12, r10, rfl, h12⟩ := bA h9
    obtain ⟨r14, rfl, h14⟩ := pI h12
    obtain ⟨r16, rfl, h16⟩ := mI h14
    obtain ⟨r19, r18, rfl, h18⟩ := aI h16
    obtain ⟨aa, r21, rfl, h20⟩ := iI h18
    obtain ⟨ab, r23, rfl, h22⟩ := iI h20
    obtain ⟨ac, r25, rfl, h24⟩ := iI h22
    obtain ⟨ad, r27, rfl, h26⟩ := iI h24
    obtain ⟨rfl, h27⟩ := nilK_inv h26
    obtain ⟨af, r29, rfl, h29⟩ := iI h27
    obtain ⟨ag, r31, rfl, h31⟩ := iI h29
    obtain ⟨ah, r33, rfl, h33⟩ := bI h31
    obtain ⟨rfl, h34⟩ := nilK_inv h33
    obtain ⟨r37, r35, rfl, h37⟩ := bA h34
    obtain ⟨ae, r39, rfl, h39⟩ := zI h37
    obtain ⟨ai, r41, rfl, h41⟩ := bI h39
    obtain ⟨aj, r43, rfl, h43⟩ := bI h41
    obtain ⟨ak, r45, rfl, h45⟩ := iI h43
    obtain ⟨al, r47, rfl, h47⟩ := iI h45
    obtain ⟨am, r49, rfl, h49⟩ := iI h47
    obtain ⟨rfl, h50⟩ := nilK_inv h49
    obtain ⟨x2, r51, rfl, h52⟩ := bM h50
    obtain ⟨x3, r53, rfl, h54⟩ := bR h52
    obtain ⟨rfl, h55⟩ := bNilK_inv h54
    have h := h55
    refine ⟨_, _, rfl, rfl, ?_⟩
    rw [← J34_6_eq from6 to7 aa ab ac ad af ag ah ae ai aj ak al am x2 x3 K]
    exact h)
theorem J34_4_eq (least1 : Int) (from6 : Int) (to7 : Int) (aa : Int) (ab : Int) (ac : Int) (ad : Int) (ae : Int) (af : Int) (ag : Bool) (ah : Nat) (ai : Bool) (aj : Bool) (ak : Int) (al : Int) (am : Int) (x2 : List PV) (x3 : List PV) (K : Ex → List PV → List Blk → Prop) : J34_4 least1 from6 to7 aa ab ac ad ae af ag ah ai aj ak al am x2 x3 (fun z0 z1 z9 z10 z11 z12 z13 z14 z16 => K .ret (skU 4 ((.int .i64 z0) :: (.int .i64 z1) :: skU 43 [])) [(.box true 57 (.agg [(.ptr 1 64 0 []), (.mapr 2), (.agg [(.int .u64 aa), (.int .i64 ab), (.int .i64 ac), (.int .u32 ad)]), (.int .i64 ae), (.int .u64 af), (.bool ag)])), (.box true 64 (.agg [(.sl 3 111 0 z9), (.bool z10), (.bool z11), (.int .i64 z12), (.int .i64 z13), (.int .i64 z14)])), (.map false 9 77 x2), (.row true 111 z16)]) = evC C34 (codeOf Try.f34 [1, 1, 1]) (mkSt ((.ptr 0 57 0 []) :: (.int .i64 least1) :: skU 4 ((.int .i64 from6) :: (.int .i64 to7) :: skU 41 [])) [(.box true 57 (.agg [(.ptr 1 64 0 []), (.mapr 2), (.agg [(.int .u64 aa), (.int .i64 ab), (.int .i64 ac), (.int .u32 ad)]), (.int .i64 ae), (.int .u64 af), (.bool ag)])), (.box true 64 (.agg [(.sl 3 111 0 ah), (.bool ai), (.bool aj), (.int .i64 ak), (.int .i64 al), (.int .i64 am)])), (.map false 9 77 x2), (.row true 111 x3)]) (onSt K) := by kernel_rfl
theorem Q34_4_ok : RestOk C34 (codeOf Try.f34 [1, 1, 1]) := RestOk.to (l := Q34_4) (by kernel_rfl) (by
    intro t bs K h0
    unfold Q34_4 at h0
    obtain ⟨r2, rfl, h2⟩ := pI h0
    obtain ⟨least1, r4, rfl, h4⟩ := iI h2
    obtain ⟨r5, rfl, h5⟩ := skipU_inv h4
    obtain ⟨from6, r7, rfl, h7⟩ := iI h5
    obtain ⟨to7, r9, rfl, h9⟩ := iI h7
    obtain ⟨r10, rfl, h10⟩ := skipU_inv h9
    obtain ⟨rfl, h11⟩ := nilK_inv h10
    obtain ⟨r14, r12, rfl, h14⟩ := bA h11
    obtain ⟨r16, rfl, h16⟩ := pI h14
    obtain ⟨r18, rfl, h18⟩ := mI h16
    obtain ⟨r21, r20, rfl, h20⟩ := aI h18
    obtain ⟨aa, r23, rfl, h22⟩ := iI h20
    obtain ⟨ab, r25, rfl, h24⟩ := iI h22
    obtain ⟨ac, r27, rfl, h26⟩ := iI h24
    obtain ⟨ad, r29, rfl, h28⟩ := iI h26
    obtain ⟨rfl, h29⟩ := nilK_inv h28
    obtain ⟨af, r31, rfl, h31⟩ := iI h29
    obtain ⟨ag, r33, rfl, h33⟩ := iI h31
    obtain ⟨ah, r35, rfl, h35⟩ := bI h33
    obtain ⟨rfl, h36⟩ := nilK_inv h35
    obtain ⟨r39, r37, rfl, h39⟩ := bA h36
    obtain ⟨ae, r41, rfl, h41⟩ := zI h39
    obtain ⟨ai, r43, rfl, h43⟩ := bI h41
    obtain ⟨aj, r45, rfl, h45⟩ := bI h43
    obtain ⟨ak, r47, rfl, h47⟩ := iI h45
    obtain ⟨al, r49, rfl, h49⟩ := iI h47
    obtain ⟨am, r51, rfl, h51⟩ := iI h49
    obtain ⟨rfl, h52⟩ := nilK_inv h51
    obtain ⟨x2, r53, rfl, h54⟩ := bM h52
    obtain ⟨x3, r55, rfl, h56⟩ := bR h54
    obtain ⟨rfl, h57⟩ := bNilK_inv h56
    have h := h57
    refine ⟨_, _, rfl, rfl, ?_⟩
    rw [← J34_4_eq least1 from6 to7 aa ab ac ad af ag ah ae ai aj ak al am x2 x3 K]
    exact h)
theorem J34_2_eq (least1 : Int) (from6 : Int) (to7 : Int) (aa : Int) (ab : Int) (ac : Int) (ad : Int) (ae : Int) (af : Int) (ag : Bool) (ah : Nat) (ai : Bool) (aj : Bool) (ak : Int) (al : Int) (am : Int) (x2 : List PV) (x3 : List PV) (K : Ex → List PV → List Blk → Prop) : J34_2 least1 from6 to7 aa ab ac ad ae af ag ah ai aj ak al am x2 x3 (fun z0 z1 z9 z10 z11 z12 z13 z14 z16 => K .ret (skU 4 ((.int .i64 z0) :: (.int .i64 z1) :: skU 43 [])) [(.box true 57 (.agg [(.ptr 1 64 0 []), (.mapr 2), (.agg [(.int .u64 aa), (.int .i64 ab), (.int .i64 ac), (.int .u32 ad)]), (.int .i64 ae), (.int .u64 af), (.bool ag)])), (.box true 64 (.agg [(.sl 3 111 0 z9), (.bool z10), (.bool z11), (.int .i64 z12), (.int .i64 z13), (.int .i64 z14)])), (.map false 9 77 x2), (.row true 111 z16)]) = evC C34 (codeOf Try.f34 [1, 1]) (mkSt ((.ptr 0 57 0 []) :: (.int .i64 least1) :: skU 4 ((.int .i64 from6) :: (.int .i64 to7) :: skU 41 [])) [(.box true 57 (.agg [(.ptr 1 64 0 []), (.mapr 2), (.agg [(.int .u64 aa), (.int .i64 ab), (.int .i64 ac), (.int .u32 ad)]), (.int .i64 ae), (.int .u64 af), (.bool ag)])), (.box true 64 (.agg [(.sl 3 111 0 ah), (.bool ai), (.bool aj), (.int .i64 ak), (.int .i64 al), (.int .i64 am)])), (.map false 9 77 x2), (.row true 111 x3)]) (onSt K) := by kernel_rfl
theorem Q34_2_ok : RestOk C34 (codeOf Try.f34 [1, 1]) := RestOk.to (l := Q34_2) (by kernel_rfl) (by
    intro t bs K h0
    unfold Q34_2 at h0
    obtain ⟨r2, rfl, h2⟩ := pI h0
    obtain ⟨least1, r4, rfl, h4⟩ := iI h2
    obtain ⟨r5, rfl, h5⟩ := skipU_inv h4
    obtain ⟨from6, r7, rfl, h7⟩ := iI h5
    obtain ⟨to7, r9, rfl, h9⟩ := iI h7
    obtain ⟨r10, rfl, h10⟩ := skipU_inv h9
    obtain ⟨rfl, h11⟩ := nilK_inv h10
    obtain ⟨r14, r12, rfl, h14⟩ := bA h11
    obtain ⟨r16, rfl, h16⟩ := pI h14
    obtain ⟨r18, rfl, h18⟩ := mI h16
    obtain ⟨r21, r20, rfl, h20⟩ := aI h18
    obtain ⟨aa, r23, rfl, h22⟩ := iI h20
    obtain ⟨ab, r25, rfl, h24⟩ := iI h22
    obtain ⟨ac, r27, rfl, h26⟩ := iI h24
    obtain ⟨ad, r29, rfl, h28⟩ := iI h26
    obtain ⟨rfl, h29⟩ := nilK_inv h28
    obtain ⟨af, r31, rfl, h31⟩ := iI h29
    obtain ⟨ag, r33, rfl, h33⟩ := iI h31
    obtain ⟨ah, r35, rfl, h35⟩ := bI h33
    obtain ⟨rfl, h36⟩ := nilK_inv h35
    obtain ⟨r39, r37, rfl, h39⟩ := bA h36
    obtain ⟨ae, r41, rfl, h41⟩ := zI h39
    obtain ⟨ai, r43, rfl, h43⟩ := bI h41
    obtain ⟨aj, r45, rfl, h45⟩ := bI h43
    obtain ⟨ak, r47, rfl, h47⟩ := iI h45
    obtain ⟨al, r49, rfl, h49⟩ := iI h47
    obtain ⟨am, r51, rfl, h51⟩ := iI h49
    obtain ⟨rfl, h52⟩ := nilK_inv h51
    obtain ⟨x2, r53, rfl, h54⟩ := bM h52
    obtain ⟨x3, r55, rfl, h56⟩ := bR h54
    obtain ⟨rfl, h57⟩ := bNilK_inv h56
    have h := h57
    refine ⟨_, _, rfl, rfl, ?_⟩
    rw [← J34_2_eq least1 from6 to7 aa ab ac ad af ag ah ae ai aj ak al am x2 x3 K]
    exact h)
theorem B34_eq (least : Int) (snumber : Int) (sfirst : Int) (slong : Int) (ssum : Int) (place : Int) (top : Int) (soff : Bool) (dn : Nat) (off : Bool) (cut : Bool) (whole : Int) (kept : Int) (writes : Int) (pairs : List PV) (secs : List PV) (K : List Blk → List PV → Prop) : evF C34 Try.f34 [(.box true 57 (.agg [(.ptr 1 64 0 []), (.mapr 2), (.agg [(.int .u64 snumber), (.int .i64 sfirst), (.int .i64 slong), (.int .u32 ssum)]), (.int .i64 place), (.int .u64 top), (.bool soff)])), (.box true 64 (.agg [(.sl 3 111 0 dn), (.bool off), (.bool cut), (.int .i64 whole), (.int .i64 kept), (.int .i64 writes)])), (.map false 9 77 pairs), (.row true 111 secs)] [(.ptr 0 57 0 []), (.int .i64 least)] K = (([(.box true 57 (.agg [(.ptr 1 64 0 []), (.mapr 2), (.agg [(.int .u64 snumber), (.int .i64 sfirst), (.int .i64 slong), (.int .u32 ssum)]), (.int .i64 place), (.int .u64 top), (.bool soff)])), (.box true 64 (.agg [(.sl 3 111 0 dn), (.bool off), (.bool cut), (.int .i64 whole), (.int .i64 kept), (.int .i64 writes)])), (.map false 9 77 pairs), (.row true 111 secs)] : List Blk).length = 4 ∧ B34 least snumber sfirst slong ssum place top soff dn off cut whole kept writes pairs secs (fun z0 z1 z2 z3 z4 z5 z6 z7 z8 z9 z10 z11 z12 z13 z14 z15 z16 => K [(.box true 57 (.agg [(.ptr 1 64 0 []), (.mapr 2), (.agg [(.int .u64 z2), (.int .i64 z3), (.int .i64 z4), (.int .u32 z5)]), (.int .i64 z6), (.int .u64 z7), (.bool z8)])), (.box true 64 (.agg [(.sl 3 111 0 z9), (.bool z10), (.bool z11), (.int .i64 z12), (.int .i64 z13), (.int .i64 z14)])), (.map false 9 77 z15), (.row true 111 z16)] [(.int .i64 z0), (.int .i64 z1)])) := by kernel_rfl
theorem W34_of (hT : AllSound Try.prog pvT pvG T34) : Sound Try.prog pvT pvG 34 W34 := Sound.weak (evF_sound (C := C34) (Base.of pvT_fits pvT_sized pvT_eq hT pvMixed pvIt_ok) Try.func34 (LoopsOk.of (C := C34) (fn := Try.f34) (l := []) (r := [codeOf Try.f34 [1], codeOf Try.f34 [1, 1], codeOf Try.f34 [1, 1, 1], codeOf Try.f34 [1, 1, 0, 1], codeOf Try.f34 [1, 1, 1, 1], codeOf Try.f34 [1, 1, 1, 0, 1], codeOf Try.f34 [1, 1, 1, 0, 1, 0, 1], codeOf Try.f34 [1, 1, 1, 1, 1]]) (g := []) (by kernel_rfl) (by kernel_rfl) (by kernel_rfl) trivial ⟨(RestOk.none (by kernel_rfl)), ⟨Q34_2_ok, ⟨Q34_4_ok, ⟨(RestOk.none (by kernel_rfl)), ⟨Q34_6_ok, ⟨(RestOk.none (by kernel_rfl)), ⟨(RestOk.none (by kernel_rfl)), ⟨(RestOk.none (by kernel_rfl)), trivial⟩⟩⟩⟩⟩⟩⟩⟩ trivial) (evF_to (C := C34) (fun bs t K h0 => by
    unfold P34 at h0
    obtain ⟨r2, rfl, h2⟩ := pI h0
    obtain ⟨least, r4, rfl, h4⟩ := iI h2
    obtain ⟨rfl, h5⟩ := nilK_inv h4
    obtain ⟨r8, r6, rfl, h8⟩ := bA h5
    obtain ⟨r10, rfl, h10⟩ := pI h8
    obtain ⟨r12, rfl, h12⟩ := mI h10
    obtain ⟨r15, r14, rfl, h14⟩ := aI h12
    obtain ⟨snumber, r17, rfl, h16⟩ := iI h14
    obtain ⟨sfirst, r19, rfl, h18⟩ := iI h16
    obtain ⟨slong, r21, rfl, h20⟩ := iI h18
    obtain ⟨ssum, r23, rfl, h22⟩ := iI h20
    obtain ⟨rfl, h23⟩ := nilK_inv h22
    obtain ⟨place, r25, rfl, h25⟩ := iI h23
    obtain ⟨top, r27, rfl, h27⟩ := iI h25
    obtain ⟨soff, r29, rfl, h29⟩ := bI h27
    obtain ⟨rfl, h30⟩ := nilK_inv h29
    obtain ⟨r33, r31, rfl, h33⟩ := bA h30
    obtain ⟨dn, r35, rfl, h35⟩ := zI h33
    obtain ⟨off, r37, rfl, h37⟩ := bI h35
    obtain ⟨cut, r39, rfl, h39⟩ := bI h37
    obtain ⟨whole, r41, rfl, h41⟩ := iI h39
    obtain ⟨kept, r43, rfl, h43⟩ := iI h41
    obtain ⟨writes, r45, rfl, h45⟩ := iI h43
    obtain ⟨rfl, h46⟩ := nilK_inv h45
    obtain ⟨pairs, r47, rfl, h48⟩ := bM h46
    obtain ⟨secs, r49, rfl, h50⟩ := bR h48
    obtain ⟨rfl, h51⟩ := bNilK_inv h50
    have h := h51
    refine ⟨_, _, rfl, rfl, ?_⟩
    rw [B34_eq least snumber sfirst slong ssum place top soff dn off cut whole kept writes pairs secs K]
    exact ⟨rfl, h⟩))) _
end Pv

namespace Pv
open Go Go.Proofs

theorem J35_5_eq (b3n : Nat) (x0 : List PV) (K : Ex → List PV → List Blk → Prop) : J35_5 b3n x0 (fun z0 => K .ret (skU 2 ((.list 5 z0) :: skU 39 [])) []) = evC C35 (codeOf Try.f35 [1, 1, 1, 1, 1]) (mkSt (skU 3 ((.sl 0 5 0 b3n) :: skU 38 [])) [(.row true 5 x0)]) (onSt K) := by kernel_rfl
theorem Q35_5_ok : RestOk C35 (codeOf Try.f35 [1, 1, 1, 1, 1]) := RestOk.to (l := Q35_5) (by kernel_rfl) (by
    intro t bs K h0
    unfold Q35_5 at h0
    obtain ⟨r1, rfl, h1⟩ := skipU_inv h0
    obtain ⟨b3n, r3, rfl, h3⟩ := zI h1
    obtain ⟨r4, rfl, h4⟩ := skipU_inv h3
    obtain ⟨rfl, h5⟩ := nilK_inv h4
    obtain ⟨x0, r6, rfl, h7⟩ := bR h5
    obtain ⟨rfl, h8⟩ := bNilK_inv h7
    have h := h8
    refine ⟨_, _, rfl, rfl, ?_⟩
    rw [← J35_5_eq b3n x0 K]
    exact h)
theorem J35_4_eq (b3n : Nat) (aa : Int) (ab : Int) (ac : Int) (ad : Int) (x1 : List PV) (K : Ex → List PV → List Blk → Prop) : J35_4 b3n aa ab ac ad x1 (fun z0 => K .ret (skU 2 ((.list 5 z0) :: skU 39 [])) []) = evC C35 (codeOf Try.f35 [1, 1, 1, 1]) (mkSt (skU 1 ((.ptr 0 55 0 []) :: skU 1 ((.sl 1 5 0 b3n) :: skU 38 []))) [(.box true 55 (.agg [(.int .u64 aa), (.int .i64 ab), (.int .i64 ac), (.int .u32 ad)])), (.row true 5 x1)]) (onSt K) := by kernel_rfl
theorem Q35_4_ok : RestOk C35 (codeOf Try.f35 [1, 1, 1, 1]) := RestOk.to (l := Q35_4) (by kernel_rfl) (by
    intro t bs K h0
    unfold Q35_4 at h0
    obtain ⟨r1, rfl, h1⟩ := skipU_inv h0
    obtain ⟨r3, rfl, h3⟩ := pI h1
    obtain ⟨r4, rfl, h4⟩ := skipU_inv h3
    obtain ⟨b3n, r6, rfl, h6⟩ := zI h4
    obtain ⟨r7, rfl, h7⟩ := skipU_inv h6
    obtain ⟨rfl, h8⟩ := nilK_inv h7
    obtain ⟨r11, r9, rfl, h11⟩ := bA h8
    obtain ⟨aa, r13, rfl, h13⟩ := iI h11
    obtain ⟨ab, r15, rfl, h15⟩ := iI h13
    obtain ⟨ac, r17, rfl, h17⟩ := iI h15
    obtain ⟨ad, r19, rfl, h19⟩ := iI h17
    obtain ⟨rfl, h20⟩ := nilK_inv h19
    obtain ⟨x1, r21, rfl, h22⟩ := bR h20
    obtain ⟨rfl, h23⟩ := bNilK_inv h22
    have h := h23
    refine ⟨_, _, rfl, rfl, ?_⟩
    rw [← J35_4_eq b3n aa ab ac ad x1 K]
    exact h)
theorem J35_3_eq (b3n : Nat) (aa : Int) (ab : Int) (ac : Int) (ad : Int) (x1 : List PV) (K : Ex → List PV → List Blk → Prop) : J35_3 b3n aa ab ac ad x1 (fun z0 => K .ret (skU 2 ((.list 5 z0) :: skU 39 [])) []) = evC C35 (codeOf Try.f35 [1, 1, 1]) (mkSt (skU 1 ((.ptr 0 55 0 []) :: skU 1 ((.sl 1 5 0 b3n) :: skU 38 []))) [(.box true 55 (.agg [(.int .u64 aa), (.int .i64 ab), (.int .i64 ac), (.int .u32 ad)])), (.row true 5 x1)]) (onSt K) := by kernel_rfl
theorem Q35_3_ok : RestOk C35 (codeOf Try.f35 [1, 1, 1]) := RestOk.to (l := Q35_3) (by kernel_rfl) (by
    intro t bs K h0
    unfold Q35_3 at h0
    obtain ⟨r1, rfl, h1⟩ := skipU_inv h0
    obtain ⟨r3, rfl, h3⟩ := pI h1
    obtain ⟨r4, rfl, h4⟩ := skipU_inv h3
    obtain ⟨b3n, r6, rfl, h6⟩ := zI h4
    obtain ⟨r7, rfl, h7⟩ := skipU_inv h6
    obtain ⟨rfl, h8⟩ := nilK_inv h7
    obtain ⟨r11, r9, rfl, h11⟩ := bA h8
    obtain ⟨aa, r13, rfl, h13⟩ := iI h11
    obtain ⟨ab, r15, rfl, h15⟩ := iI h13
    obtain ⟨ac, r17, rfl, h17⟩ := iI h15
    obtain ⟨ad, r19, rfl, h19⟩ := iI h17
    obtain ⟨rfl, h20⟩ := nilK_inv h19
    obtain ⟨x1, r21, rfl, h22⟩ := bR h20
    obtain ⟨rfl, h23⟩ := bNilK_inv h22
    have h := h23
    refine ⟨_, _, rfl, rfl, ?_⟩
    rw [← J35_3_eq b3n aa ab ac ad x1 K]
    exact h)
theorem J35_2_eq (b3n : Nat) (aa : Int) (ab : Int) (ac : Int) (ad : Int) (x1 : List PV) (K : Ex → List PV → List Blk → Prop) : J35_2 b3n aa ab ac ad x1 (fun z0 => K .ret (skU 2 ((.list 5 z0) :: skU 39 [])) []) = evC C35 (codeOf Try.f35 [1, 1]) (mkSt (skU 1 ((.ptr 0 55 0 []) :: skU 1 ((.sl 1 5 0 b3n) :: skU 38 []))) [(.box true 55 (.agg [(.int .u64 aa), (.int .i64 ab), (.int .i64 ac), (.int .u32 ad)])), (.row true 5 x1)]) (onSt K) := by kernel_rfl
theorem Q35_2_ok : RestOk C35 (codeOf Try.f35 [1, 1]) := RestOk.to (l := Q35_2) (by kernel_rfl) (by
    intro t bs K h0
    unfold Q35_2 at h0
    obtain ⟨r1, rfl, h1⟩ := skipU_inv h0
    obtain ⟨r3, rfl, h3⟩ := pI h1
    obtain ⟨r4, rfl, h4⟩ := skipU_inv h3
    obtain ⟨b3n, r6, rfl, h6⟩ := zI h4
    obtain ⟨r7, rfl, h7⟩ := skipU_inv h6
    obtain ⟨rfl, h8⟩ := nilK_inv h7
    obtain ⟨r11, r9, rfl, h11⟩ := bA h8
    obtain ⟨aa, r13, rfl, h13⟩ := iI h11
    obtain ⟨ab, r15, rfl, h15⟩ := iI h13
    obtain ⟨ac, r17, rfl, h17⟩ := iI h15
    obtain ⟨ad, r19, rfl, h19⟩ := iI h17
    obtain ⟨rfl, h20⟩ := nilK_inv h19
    obtain ⟨x1, r21, rfl, h22⟩ := bR h20
    obtain ⟨rfl, h23⟩ := bNilK_inv h22
    have h := h23
    refine ⟨_, _, rfl, rfl, ?_⟩
    rw [← J35_2_eq b3n aa ab ac ad x1 K]
    exact h)
theorem J35_1_eq (aa : Int) (ab : Int) (ac : Int) (ad : Int) (K : Ex → List PV → List Blk → Prop) : J35_1 aa ab ac ad (fun z0 => K .ret (skU 2 ((.list 5 z0) :: skU 39 [])) []) = evC C35 (codeOf Try.f35 [1]) (mkSt (skU 1 ((.ptr 0 55 0 []) :: skU 40 [])) [(.box true 55 (.agg [(.int .u64 aa), (.int .i64 ab), (.int .i64 ac), (.int .u32 ad)]))]) (onSt K) := by kernel_rfl
theorem Q35_1_ok : RestOk C35 (codeOf Try.f35 [1]) := RestOk.to (l := Q35_1) (by kernel_rfl) (by
    intro t bs K h0
    unfold Q35_1 at h0
    obtain ⟨r1, rfl, h1⟩ := skipU_inv h0
    obtain ⟨r3, rfl, h3⟩ := pI h1
    obtain ⟨r4, rfl, h4⟩ := skipU_inv h3
    obtain ⟨rfl, h5⟩ := nilK_inv h4
    obtain ⟨r8, r6, rfl, h8⟩ := bA h5
    obtain ⟨aa, r10, rfl, h10⟩ := iI h8
    obtain ⟨ab, r12, rfl, h12⟩ := iI h10
    obtain ⟨ac, r14, rfl, h14⟩ := iI h12
    obtain ⟨ad, r16, rfl, h16⟩ := iI h14
    obtain ⟨rfl, h17⟩ := nilK_inv h16
    obtain ⟨rfl, h18⟩ := bNilK_inv h17
    have h := h18
    refine ⟨_, _, rfl, rfl, ?_⟩
    rw [← J35_1_eq aa ab ac ad K]
    exact h)
theorem B35_eq (n0f0 : Int) (n0f1 : Int) (n0f2 : Int) (n0f3 : Int) (K : List Blk → List PV → Prop) : evF C35 Try.f35 [] [(.agg [(.int .u64 n0f0), (.int .i64 n0f1), (.int .i64 n0f2), (.int .u32 n0f3)])] K = (([] : List Blk).length = 0 ∧ B35 n0f0 n0f1 n0f2 n0f3 (fun z0 => K [] [(.list 5 z0)])) := by kernel_rfl
theorem W35_of (hT : AllSound Try.prog pvT pvG T35) : Sound Try.prog pvT pvG 35 W35 := Sound.weak (evF_sound (C := C35) (Base.of pvT_fits pvT_sized pvT_eq hT pvMixed pvIt_ok) Try.func35 (LoopsOk.of (C := C35) (fn := Try.f35) (l := []) (r := [codeOf Try.f35 [1], codeOf Try.f35 [1, 1], codeOf Try.f35 [1, 1, 1], codeOf Try.f35 [1, 1, 1, 1], codeOf Try.f35 [1, 1, 1, 1, 1], codeOf Try.f35 [1, 1, 1, 1, 1, 1]]) (g := []) (by kernel_rfl) (by kernel_rfl) (by kernel_rfl) trivial ⟨Q35_1_ok, ⟨Q35_2_ok, ⟨Q35_3_ok, ⟨Q35_4_ok, ⟨Q35_5_ok, ⟨(RestOk.none (by kernel_rfl)), trivial⟩⟩⟩⟩⟩⟩ trivial) (evF_to (C := C35) (fun bs t K h0 => by
    unfold P35 at h0
    obtain ⟨r3, r2, rfl, h2⟩ := aI h0
    obtain ⟨n0f0, r5, rfl, h4⟩ := iI h2
    obtain ⟨n0f1, r7, rfl, h6⟩ := iI h4
    obtain ⟨n0f2, r9, rfl, h8⟩ := iI h6
    obtain ⟨n0f3, r11, rfl, h10⟩ := iI h8
    obtain ⟨rfl, h11⟩ := nilK_inv h10
    obtain ⟨rfl, h12⟩ := nilK_inv h11
    obtain ⟨rfl, h13⟩ := bNilK_inv h12
    have h := h13
    refine ⟨_, _, rfl, rfl, ?_⟩
    rw [B35_eq n0f0 n0f1 n0f2 n0f3 K]
    exact ⟨rfl, h⟩))) _
end Pv

namespace Pv
open Go Go.Proofs

theorem S48_4_eq (n4 : Int) (t12 : List PV) (t13 : Int) (t14 : Int) (aa : List PV) (ab : Bool) (ac : Bool) (G : Ex → St → Prop) : evC C48 (codeOf Try.f48 [1, 1, 0, 1, 0, 0]) (mkSt (skU 4 ((.int .u64 n4) :: skU 7 ((.list 5 t12) :: (.int .i64 t13) :: (.int .i64 t14) :: skU 13 []))) [(.box true 132 (.agg [(.list 5 aa), (.bool ab), (.bool ac)]))]) G = S48_4 t12 t13 aa ab ac n4 t14 (fun n4 t14 => G .normal (mkSt (skU 4 ((.int .u64 n4) :: skU 7 ((.list 5 t12) :: (.int .i64 t13) :: (.int .i64 t14) :: skU 13 []))) [(.box true 132 (.agg [(.list 5 aa), (.bool ab), (.bool ac)]))])) (fun z0 z3 => G (.exit 0) (mkSt (skU 4 ((.int .u64 z0) :: skU 7 ((.list 5 t12) :: (.int .i64 t13) :: (.int .i64 z3) :: skU 13 []))) [(.box true 132 (.agg [(.list 5 aa), (.bool ab), (.bool ac)]))])) := by kernel_rfl
theorem R48_4_eq (t12 : List PV) (t13 : Int) (aa : List PV) (ab : Bool) (ac : Bool) (G : Ex → St → Prop) : ∀ (n : Nat) (n4 : Int) (t14 : Int), evLoop C48 (codeOf Try.f48 [1, 1, 0, 1, 0, 0]) n (mkSt (skU 4 ((.int .u64 n4) :: skU 7 ((.list 5 t12) :: (.int .i64 t13) :: (.int .i64 t14) :: skU 13 []))) [(.box true 132 (.agg [(.list 5 aa), (.bool ab), (.bool ac)]))]) G = R48_4 t12 t13 aa ab ac (fun z0 z3 => G (.exit 0) (mkSt (skU 4 ((.int .u64 z0) :: skU 7 ((.list 5 t12) :: (.int .i64 t13) :: (.int .i64 z3) :: skU 13 []))) [(.box true 132 (.agg [(.list 5 aa), (.bool ab), (.bool ac)]))])) n n4 t14
  | 0, _, _ => rfl
  | n + 1, n4, t14 => (S48_4_eq n4 t12 t13 t14 aa ab ac (fun e s => match e with | .normal => evLoop C48 (codeOf Try.f48 [1, 1, 0, 1, 0, 0]) n s G | .exit id => G (.exit id) s | .ret => G .ret s)).trans (congrArg (fun q => S48_4 t12 t13 aa ab ac n4 t14 q (fun z0 z3 => G (.exit 0) (mkSt (skU 4 ((.int .u64 z0) :: skU 7 ((.list 5 t12) :: (.int .i64 t13) :: (.int .i64 z3) :: skU 13 []))) [(.box true 132 (.agg [(.list 5 aa), (.bool ab), (.bool ac)]))]))) (funext fun n4 => funext fun t14 => R48_4_eq t12 t13 aa ab ac G n n4 t14))
theorem R48_4_eqK (t12 : List PV) (t13 : Int) (aa : List PV) (ab : Bool) (ac : Bool) (K : Ex → List PV → List Blk → Prop) (n : Nat) (n4 : Int) (t14 : Int) : R48_4 t12 t13 aa ab ac (fun z0 z3 => K (.exit 0) (skU 4 ((.int .u64 z0) :: skU 7 ((.list 5 t12) :: (.int .i64 t13) :: (.int .i64 z3) :: skU 13 []))) [(.box true 132 (.agg [(.list 5 aa), (.bool ab), (.bool ac)]))]) n n4 t14 = evLoop C48 (codeOf Try.f48 [1, 1, 0, 1, 0, 0]) n (mkSt (skU 4 ((.int .u64 n4) :: skU 7 ((.list 5 t12) :: (.int .i64 t13) :: (.int .i64 t14) :: skU 13 []))) [(.box true 132 (.agg [(.list 5 aa), (.bool ab), (.bool ac)]))]) (onSt K) := ((R48_4_eq t12 t13 aa ab ac (onSt K) n n4 t14).trans (by kernel_rfl)).symm
theorem Q48_4_ok : LoopOk C48 (codeOf Try.f48 [1, 1, 0, 1, 0, 0]) := LoopOk.of (l := Q48_4) (by kernel_rfl) (fun t bs K h0 => by
    unfold Q48_4 at h0
    obtain ⟨r1, rfl, h1⟩ := skipU_inv h0
    obtain ⟨n4, r3, rfl, h3⟩ := iI h1
    obtain ⟨r4, rfl, h4⟩ := skipU_inv h3
    obtain ⟨t12, r6, rfl, h6⟩ := lI h4
    obtain ⟨t13, r8, rfl, h8⟩ := iI h6
    obtain ⟨t14, r10, rfl, h10⟩ := iI h8
    obtain ⟨r11, rfl, h11⟩ := skipU_inv h10
    obtain ⟨rfl, h12⟩ := nilK_inv h11
    obtain ⟨r15, r13, rfl, h15⟩ := bA h12
    obtain ⟨aa, r17, rfl, h17⟩ := lI h15
    obtain ⟨ab, r19, rfl, h19⟩ := bI h17
    obtain ⟨ac, r21, rfl, h21⟩ := bI h19
    obtain ⟨rfl, h22⟩ := nilK_inv h21
    obtain ⟨rfl, h23⟩ := bNilK_inv h22
    have h := h23
    obtain ⟨n, hn⟩ := h
    refine ⟨n, ?_⟩
    rw [← R48_4_eqK t12 t13 aa ab ac K n n4 t14]
    exact hn)
theorem J48_3_eq (w1 : Int) (n4 : Int) (aa : List PV) (ab : Bool) (ac : Bool) (K : Ex → List PV → List Blk → Prop) : J48_3 w1 n4 aa ab ac (fun z0 z1 z2 z3 => K .ret (skU 4 ((.int .u64 z0) :: skU 23 [])) [(.box true 132 (.agg [(.list 5 z1), (.bool z2), (.bool z3)]))]) = evC C48 (codeOf Try.f48 [1, 1]) (mkSt ((.ptr 0 132 0 []) :: (.int .i64 w1) :: skU 2 ((.int .u64 n4) :: skU 23 [])) [(.box true 132 (.agg [(.list 5 aa), (.bool ab), (.bool ac)]))]) (onSt K) := by kernel_rfl
theorem Q48_3_ok : RestOk C48 (codeOf Try.f48 [1, 1]) := RestOk.to (l := Q48_3) (by kernel_rfl) (by
    intro t bs K h0
    unfold Q48_3 at h0
    obtain ⟨r2, rfl, h2⟩ := pI h0
    obtain ⟨w1, r4, rfl, h4⟩ := iI h2
    obtain ⟨r5, rfl, h5⟩ := skipU_inv h4
    obtain ⟨n4, r7, rfl, h7⟩ := iI h5
    obtain ⟨r8, rfl, h8⟩ := skipU_inv h7
    obtain ⟨rfl, h9⟩ := nilK_inv h8
    obtain ⟨r12, r10, rfl, h12⟩ := bA h9
    obtain ⟨aa, r14, rfl, h14⟩ := lI h12
    obtain ⟨ab, r16, rfl, h16⟩ := bI h14
    obtain ⟨ac, r18, rfl, h18⟩ := bI h16
    obtain ⟨rfl, h19⟩ := nilK_inv h18
    obtain ⟨rfl, h20⟩ := bNilK_inv h19
    have h := h20
    refine ⟨_, _, rfl, rfl, ?_⟩
    rw [← J48_3_eq w1 n4 aa ab ac K]
    exact h)
theorem B48_eq (w : Int) (rb : List PV) (made : Bool) (torn : Bool) (K : List Blk → List PV → Prop) : evF C48 Try.f48 [(.box true 132 (.agg [(.list 5 rb), (.bool made), (.bool torn)]))] [(.ptr 0 132 0 []), (.int .i64 w)] K = (([(.box true 132 (.agg [(.list 5 rb), (.bool made), (.bool torn)]))] : List Blk).length = 1 ∧ B48 w rb made torn (fun z0 z1 z2 z3 => K [(.box true 132 (.agg [(.list 5 z1), (.bool z2), (.bool z3)]))] [(.int .u64 z0)])) := by kernel_rfl
theorem W48_of (hT : AllSound Try.prog pvT pvG T48) : Sound Try.prog pvT pvG 48 W48 := Sound.weak (evF_sound (C := C48) (Base.of pvT_fits pvT_sized pvT_eq hT pvMixed pvIt_ok) Try.func48 (LoopsOk.of (C := C48) (fn := Try.f48) (l := [codeOf Try.f48 [1, 1, 0, 1, 0, 0]]) (r := [codeOf Try.f48 [1], codeOf Try.f48 [1, 1], codeOf Try.f48 [1, 0, 1], codeOf Try.f48 [1, 1, 1], codeOf Try.f48 [1, 1, 0, 1], codeOf Try.f48 [1, 1, 0, 1, 0, 0, 1], codeOf Try.f48 [1, 1, 0, 1, 0, 0, 1, 1], codeOf Try.f48 [1, 1, 0, 1, 0, 0, 1, 1, 1], codeOf Try.f48 [1, 1, 0, 1, 0, 0, 1, 1, 0, 0, 1], codeOf Try.f48 [1, 1, 1, 1]]) (g := []) (by kernel_rfl) (by kernel_rfl) (by kernel_rfl) ⟨Q48_4_ok, trivial⟩ ⟨(RestOk.none (by kernel_rfl)), ⟨Q48_3_ok, ⟨(RestOk.none (by kernel_rfl)), ⟨(RestOk.none (by kernel_rfl)), ⟨(RestOk.none (by kernel_rfl)), ⟨(RestOk.none (by kernel_rfl)), ⟨(RestOk.none (by kernel_rfl)), ⟨(RestOk.none (by kernel_rfl)), ⟨(RestOk.none (by kernel_rfl)), ⟨(RestOk.none (by kernel_rfl)), trivial⟩⟩⟩⟩⟩⟩⟩⟩⟩⟩ trivial) (evF_to (C := C48) (fun bs t K h0 => by
    unfold P48 at h0
    obtain ⟨r2, rfl, h2⟩ := pI h0
    obtain ⟨w, r4, rfl, h4⟩ := iI h2
    obtain ⟨rfl, h5⟩ := nilK_inv h4
    obtain ⟨r8, r6, rfl, h8⟩ := bA h5
    obtain ⟨rb, r10, rfl, h10⟩ := lI h8
    obtain ⟨made, r12, rfl, h12⟩ := bI h10
    obtain ⟨torn, r14, rfl, h14⟩ := bI h12
    obtain ⟨rfl, h15⟩ := nilK_inv h14
    obtain ⟨rfl, h16⟩ := bNilK_inv h15
    have h := h16
    refine ⟨_, _, rfl, rfl, ?_⟩
    rw [B48_eq w rb made torn K]
    exact ⟨rfl, h⟩))) _
end Pv

namespace Pv
open Go Go.Proofs

theorem S56_5_eq (n2 : Int) (out8n : Nat) (t26 : Int) (t27 : Int) (x0 : List PV) (G : Ex → St → Prop) : evC C56 (codeOf Try.f56 [1, 1, 1, 0, 1, 0, 0]) (mkSt (skU 2 ((.int .u64 n2) :: skU 5 ((.sl 0 5 0 out8n) :: skU 17 ((.int .i64 t26) :: (.int .i64 t27) :: skU 12 [])))) [(.row true 5 x0)]) G = S56_5 n2 t26 out8n t27 x0 (fun out8n t27 x0 => G .normal (mkSt (skU 2 ((.int .u64 n2) :: skU 5 ((.sl 0 5 0 out8n) :: skU 17 ((.int .i64 t26) :: (.int .i64 t27) :: skU 12 [])))) [(.row true 5 x0)])) (fun z1 z3 z4 => G (.exit 0) (mkSt (skU 2 ((.int .u64 n2) :: skU 5 ((.sl 0 5 0 z1) :: skU 17 ((.int .i64 t26) :: (.int .i64 z3) :: skU 12 [])))) [(.row true 5 z4)])) := by kernel_rfl
theorem R56_5_eq (n2 : Int) (t26 : Int) (G : Ex → St → Prop) : ∀ (n : Nat) (out8n : Nat) (t27 : Int) (x0 : List PV), evLoop C56 (codeOf Try.f56 [1, 1, 1, 0, 1, 0, 0]) n (mkSt (skU 2 ((.int .u64 n2) :: skU 5 ((.sl 0 5 0 out8n) :: skU 17 ((.int .i64 t26) :: (.int .i64 t27) :: skU 12 [])))) [(.row true 5 x0)]) G = R56_5 n2 t26 (fun z1 z3 z4 => G (.exit 0) (mkSt (skU 2 ((.int .u64 n2) :: skU 5 ((.sl 0 5 0 z1) :: skU 17 ((.int .i64 t26) :: (.int .i64 z3) :: skU 12 [])))) [(.row true 5 z4)])) n out8n t27 x0
  | 0, _, _, _ => rfl
  | n + 1, out8n, t27, x0 => (S56_5_eq n2 out8n t26 t27 x0 (fun e s => match e with | .normal => evLoop C56 (codeOf Try.f56 [1, 1, 1, 0, 1, 0, 0]) n s G | .exit id => G (.exit id) s | .ret => G .ret s)).trans (congrArg (fun q => S56_5 n2 t26 out8n t27 x0 q (fun z1 z3 z4 => G (.exit 0) (mkSt (skU 2 ((.int .u64 n2) :: skU 5 ((.sl 0 5 0 z1) :: skU 17 ((.int .i64 t26) :: (.int .i64 z3) :: skU 12 [])))) [(.row true 5 z4)]))) (funext fun out8n => funext fun t27 => funext fun x0 => R56_5_eq n2 t26 G n out8n t27 x0))
theorem R56_5_eqK (n2 : Int) (t26 : Int) (K : Ex → List PV → List Blk → Prop) (n : Nat) (out8n : Nat) (t27 : Int) (x0 : List PV) : R56_5 n2 t26 (fun z1 z3 z4 => K (.exit 0) (skU 2 ((.int .u64 n2) :: skU 5 ((.sl 0 5 0 z1) :: skU 17 ((.int .i64 t26) :: (.int .i64 z3) :: skU 12 [])))) [(.row true 5 z4)]) n out8n t27 x0 = evLoop C56 (codeOf Try.f56 [1, 1, 1, 0, 1, 0, 0]) n (mkSt (skU 2 ((.int .u64 n2) :: skU 5 ((.sl 0 5 0 out8n) :: skU 17 ((.int .i64 t26) :: (.int .i64 t27) :: skU 12 [])))) [(.row true 5 x0)]) (onSt K) := ((R56_5_eq n2 t26 (onSt K) n out8n t27 x0).trans (by kernel_rfl)).symm
theorem Q56_5_ok : LoopOk C56 (codeOf Try.f56 [1, 1, 1, 0, 1, 0, 0]) := LoopOk.of (l := Q56_5) (by kernel_rfl) (fun t bs K h0 => by
    unfold Q56_5 at h0
    obtain ⟨r1, rfl, h1⟩ := skipU_inv h0
    obtain ⟨n2, r3, rfl, h3⟩ := iI h1
    obtain ⟨r4, rfl, h4⟩ := skipU_inv h3
    obtain ⟨out8n, r6, rfl, h6⟩ := zI h4
    obtain ⟨r7, rfl, h7⟩ := skipU_inv h6
    obtain ⟨t26, r9, rfl, h9⟩ := iI h7
    obtain ⟨t27, r11, rfl, h11⟩ := iI h9
    obtain ⟨r12, rfl, h12⟩ := skipU_inv h11
    obtain ⟨rfl, h13⟩ := nilK_inv h12
    obtain ⟨x0, r14, rfl, h15⟩ := bR h13
    obtain ⟨rfl, h16⟩ := bNilK_inv h15
    have h := h16
    obtain ⟨n, hn⟩ := h
    refine ⟨n, ?_⟩
    rw [← R56_5_eqK n2 t26 K n out8n t27 x0]
    exact hn)
theorem J56_3_eq (b0 : List PV) (w1 : Int) (n2 : Int) (K : Ex → List PV → List Blk → Prop) : J56_3 b0 w1 n2 (fun z0 z2 => K .ret (skU 6 ((.sl 0 5 0 z0) :: (.int .i64 0) :: skU 32 [])) [(.row true 5 z2)]) = evC C56 (codeOf Try.f56 [1, 1]) (mkSt ((.list 5 b0) :: (.int .i64 w1) :: (.int .u64 n2) :: skU 37 []) []) (onSt K) := by kernel_rfl
theorem Q56_3_ok : RestOk C56 (codeOf Try.f56 [1, 1]) := RestOk.to (l := Q56_3) (by kernel_rfl) (by
    intro t bs K h0
    unfold Q56_3 at h0
    obtain ⟨b0, r2, rfl, h2⟩ := lI h0
    obtain ⟨w1, r4, rfl, h4⟩ := iI h2
    obtain ⟨n2, r6, rfl, h6⟩ := iI h4
    obtain ⟨r7, rfl, h7⟩ := skipU_inv h6
    obtain ⟨rfl, h8⟩ := nilK_inv h7
    obtain ⟨rfl, h9⟩ := bNilK_inv h8
    have h := h9
    refine ⟨_, _, rfl, rfl, ?_⟩
    rw [← J56_3_eq b0 w1 n2 K]
    exact h)
theorem B56_eq (b0 : List PV) (w1 : Int) (n2 : Int) (K : List Blk → List PV → Prop) : evF C56 Try.f56 [] [(.list 5 b0), (.int .i64 w1), (.int .u64 n2)] K = (([] : List Blk).length = 0 ∧ B56 b0 w1 n2 (fun z0 z1 z2 => K [(.row true 5 z2)] [(.sl 0 5 0 z0), (.int .i64 z1)])) := by kernel_rfl
theorem W56_of (hT : AllSound Try.prog pvT pvG T56) : Sound Try.prog pvT pvG 56 W56 := Sound.weak (evF_sound (C := C56) (Base.of pvT_fits pvT_sized pvT_eq hT pvMixed pvIt_ok) Try.func56 (LoopsOk.of (C := C56) (fn := Try.f56) (l := [codeOf Try.f56 [1, 1, 1, 0, 1, 0, 0]]) (r := [codeOf Try.f56 [1], codeOf Try.f56 [1, 1], codeOf Try.f56 [1, 0, 1], codeOf Try.f56 [1, 0, 1, 0, 1], codeOf Try.f56 [1, 1, 1], codeOf Try.f56 [1, 1, 1, 1], codeOf Try.f56 [1, 1, 1, 0, 1], codeOf Try.f56 [1, 1, 1, 0, 1, 0, 0, 1], codeOf Try.f56 [1, 1, 1, 0, 1, 0, 0, 1, 1], codeOf Try.f56 [1, 1, 1, 0, 1, 0, 0, 1, 1, 1], codeOf Try.f56 [1, 1, 1, 0, 1, 0, 0, 1, 1, 0, 0, 1], codeOf Try.f56 [1, 1, 1, 1, 1]]) (g := []) (by kernel_rfl) (by kernel_rfl) (by kernel_rfl) ⟨Q56_5_ok, trivial⟩ ⟨(RestOk.none (by kernel_rfl)), ⟨Q56_3_ok, ⟨(RestOk.none (by kernel_rfl)), ⟨(RestOk.none (by kernel_rfl)), ⟨(RestOk.none (by kernel_rfl)), ⟨(RestOk.none (by kernel_rfl)), ⟨(RestOk.none (by kernel_rfl)), ⟨(RestOk.none (by kernel_rfl)), ⟨(RestOk.none (by kernel_rfl)), ⟨(RestOk.none (by kernel_rfl)), ⟨(RestOk.none (by kernel_rfl)), ⟨(RestOk.none (by kernel_rfl)), trivial⟩⟩⟩⟩⟩⟩⟩⟩⟩⟩⟩⟩ trivial) (evF_to (C := C56) (fun bs t K h0 => by
    unfold P56 at h0
    obtain ⟨b0, r2, rfl, h2⟩ := lI h0
    obtain ⟨w1, r4, rfl, h4⟩ := iI h2
    obtain ⟨n2, r6, rfl, h6⟩ := iI h4
    obtain ⟨rfl, h7⟩ := nilK_inv h6
    obtain ⟨rfl, h8⟩ := bNilK_inv h7
    have h := h8
    refine ⟨_, _, rfl, rfl, ?_⟩
    rw [B56_eq b0 w1 n2 K]
    exact ⟨rfl, h⟩))) _
end Pv

namespace Pv
open Go Go.Proofs

theorem S32_4_eq (m21 : List PV) (x0 : List PV) (G : Ex → St → Prop) : evC C32 (codeOf Try.f32 [1, 1, 0, 1, 0, 0]) (mkSt (skU 1 ((.dmap 9 77 m21) :: skU 13 ((.ptr 0 0 0 []) :: skU 18 []))) [(.iter true 9 77 x0 .undef)]) G = S32_4 m21 x0 (fun x0 => G .normal (mkSt (skU 1 ((.dmap 9 77 m21) :: skU 13 ((.ptr 0 0 0 []) :: skU 18 []))) [(.iter true 9 77 x0 .undef)])) (fun z1 => G (.exit 0) (mkSt (skU 1 ((.dmap 9 77 m21) :: skU 13 ((.ptr 0 0 0 []) :: skU 18 []))) [(.iter true 9 77 z1 .undef)])) (G .ret (mkSt (skU 4 ((.bool false) :: skU 29 [])) [])) := by kernel_rfl
theorem R32_4_eq (m21 : List PV) (G : Ex → St → Prop) : ∀ (n : Nat) (x0 : List PV), evLoop C32 (codeOf Try.f32 [1, 1, 0, 1, 0, 0]) n (mkSt (skU 1 ((.dmap 9 77 m21) :: skU 13 ((.ptr 0 0 0 []) :: skU 18 []))) [(.iter true 9 77 x0 .undef)]) G = R32_4 m21 (fun z1 => G (.exit 0) (mkSt (skU 1 ((.dmap 9 77 m21) :: skU 13 ((.ptr 0 0 0 []) :: skU 18 []))) [(.iter true 9 77 z1 .undef)])) (G .ret (mkSt (skU 4 ((.bool false) :: skU 29 [])) [])) n x0
  | 0, _ => rfl
  | n + 1, x0 => (S32_4_eq m21 x0 (fun e s => match e with | .normal => evLoop C32 (codeOf Try.f32 [1, 1, 0, 1, 0, 0]) n s G | .exit id => G (.exit id) s | .ret => G .ret s)).trans (congrArg (fun q => S32_4 m21 x0 q (fun z1 => G (.exit 0) (mkSt (skU 1 ((.dmap 9 77 m21) :: skU 13 ((.ptr 0 0 0 []) :: skU 18 []))) [(.iter true 9 77 z1 .undef)])) (G .ret (mkSt (skU 4 ((.bool false) :: skU 29 [])) []))) (funext fun x0 => R32_4_eq m21 G n x0))
theorem R32_4_eqK (m21 : List PV) (K : Ex → List PV → List Blk → Prop) (n : Nat) (x0 : List PV) : R32_4 m21 (fun z1 => K (.exit 0) (skU 1 ((.dmap 9 77 m21) :: skU 13 ((.ptr 0 0 0 []) :: skU 18 []))) [(.iter true 9 77 z1 .undef)]) (K .ret (skU 4 ((.bool false) :: skU 29 [])) []) n x0 = evLoop C32 (codeOf Try.f32 [1, 1, 0, 1, 0, 0]) n (mkSt (skU 1 ((.dmap 9 77 m21) :: skU 13 ((.ptr 0 0 0 []) :: skU 18 []))) [(.iter true 9 77 x0 .undef)]) (onSt K) := ((R32_4_eq m21 (onSt K) n x0).trans (by kernel_rfl)).symm
theorem Q32_4_ok : LoopOk C32 (codeOf Try.f32 [1, 1, 0, 1, 0, 0]) := LoopOk.of (l := Q32_4) (by kernel_rfl) (fun t bs K h0 => by
    unfold Q32_4 at h0
    obtain ⟨r1, rfl, h1⟩ := skipU_inv h0
    obtain ⟨r2, r3, rfl, h2⟩ := consK_inv h1
    obtain ⟨m21, rfl, h3⟩ := dmapK_inv h2
    obtain ⟨r4, rfl, h4⟩ := skipU_inv h3
    obtain ⟨r6, rfl, h6⟩ := pI h4
    obtain ⟨r7, rfl, h7⟩ := skipU_inv h6
    obtain ⟨rfl, h8⟩ := nilK_inv h7
    obtain ⟨r8, r9, rfl, h9⟩ := bConsK_inv h8
    obtain ⟨x0, r10, rfl, h10⟩ := bIterK_inv h9
    obtain ⟨rfl, h11⟩ := undefK_inv h10
    obtain ⟨rfl, h12⟩ := bNilK_inv h11
    have h := h12
    obtain ⟨n, hn⟩ := h
    refine ⟨n, ?_⟩
    rw [← R32_4_eqK m21 K n x0]
    exact hn)
theorem B32_eq (m10 : List PV) (m21 : List PV) (K : List Blk → List PV → Prop) : evF C32 Try.f32 [] [(.dmap 9 77 m10), (.dmap 9 77 m21)] K = (([] : List Blk).length = 0 ∧ B32 m10 m21 (fun z0 => K [] [(.bool z0)])) := by kernel_rfl
theorem W32_of (hT : AllSound Try.prog pvT pvG T32) : Sound Try.prog pvT pvG 32 W32 := Sound.weak (evF_sound (C := C32) (Base.of pvT_fits pvT_sized pvT_eq hT pvMixed pvIt_ok) Try.func32 (LoopsOk.of (C := C32) (fn := Try.f32) (l := [codeOf Try.f32 [1, 1, 0, 1, 0, 0]]) (g := []) (by kernel_rfl) rfl (by kernel_rfl) ⟨Q32_4_ok, trivial⟩ (RestOk.all rfl _) trivial) (evF_to (C := C32) (fun bs t K h0 => by
    unfold P32 at h0
    obtain ⟨r1, r2, rfl, h1⟩ := consK_inv h0
    obtain ⟨m10, rfl, h2⟩ := dmapK_inv h1
    obtain ⟨r3, r4, rfl, h3⟩ := consK_inv h2
    obtain ⟨m21, rfl, h4⟩ := dmapK_inv h3
    obtain ⟨rfl, h5⟩ := nilK_inv h4
    obtain ⟨rfl, h6⟩ := bNilK_inv h5
    have h := h6
    refine ⟨_, _, rfl, rfl, ?_⟩
    rw [B32_eq m10 m21 K]
    exact ⟨rfl, h⟩))) _
end Pv

namespace Pv
open Go Go.Proofs

theorem B20_eq (key : ByteArray) (snumber : Int) (sfirst : Int) (slong : Int) (ssum : Int) (place : Int) (top : Int) (soff : Bool) (dn : Nat) (off : Bool) (cut : Bool) (whole : Int) (kept : Int) (writes : Int) (pairs : List PV) (secs : List PV) (K : List Blk → List PV → Prop) : evF C20 Try.f20 [(.box true 57 (.agg [(.ptr 1 64 0 []), (.mapr 2), (.agg [(.int .u64 snumber), (.int .i64 sfirst), (.int .i64 slong), (.int .u32 ssum)]), (.int .i64 place), (.int .u64 top), (.bool soff)])), (.box true 64 (.agg [(.sl 3 111 0 dn), (.bool off), (.bool cut), (.int .i64 whole), (.int .i64 kept), (.int .i64 writes)])), (.map false 9 77 pairs), (.row true 111 secs)] [(.ptr 0 57 0 []), (.str key)] K = (([(.box true 57 (.agg [(.ptr 1 64 0 []), (.mapr 2), (.agg [(.int .u64 snumber), (.int .i64 sfirst), (.int .i64 slong), (.int .u32 ssum)]), (.int .i64 place), (.int .u64 top), (.bool soff)])), (.box true 64 (.agg [(.sl 3 111 0 dn), (.bool off), (.bool cut), (.int .i64 whole), (.int .i64 kept), (.int .i64 writes)])), (.map false 9 77 pairs), (.row true 111 secs)] : List Blk).length = 4 ∧ B20 key snumber sfirst slong ssum place top soff dn off cut whole kept writes pairs secs (fun z0 z1 z2 z3 z4 z5 z6 z7 z8 z9 z10 z11 z12 z13 z14 z15 z16 => K [(.box true 57 (.agg [(.ptr 1 64 0 []), (.mapr 2), (.agg [(.int .u64 z2), (.int .i64 z3), (.int .i64 z4), (.int .u32 z5)]), (.int .i64 z6), (.int .u64 z7), (.bool z8)])), (.box true 64 (.agg [(.sl 3 111 0 z9), (.bool z10), (.bool z11), (.int .i64 z12), (.int .i64 z13), (.int .i64 z14)])), (.map false 9 77 z15), (.row true 111 z16)] [(.str z0), (.bool z1)])) := by kernel_rfl
theorem W20_of (hT : AllSound Try.prog pvT pvG T20) : Sound Try.prog pvT pvG 20 W20 := Sound.weak (evF_sound (C := C20) (Base.of pvT_fits pvT_sized pvT_eq hT pvMixed pvIt_ok) Try.func20 (LoopsOk.of (C := C20) (fn := Try.f20) (l := []) (g := []) (by kernel_rfl) rfl (by kernel_rfl) trivial (RestOk.all rfl _) trivial) (evF_to (C := C20) (fun bs t K h0 => by
    unfold P20 at h0
    obtain ⟨r2, rfl, h2⟩ := pI h0
    obtain ⟨key, r4, rfl, h4⟩ := sI h2
    obtain ⟨rfl, h5⟩ := nilK_inv h4
    obtain ⟨r8, r6, rfl, h8⟩ := bA h5
    obtain ⟨r10, rfl, h10⟩ := pI h8
    obtain ⟨r12, rfl, h12⟩ := mI h10
    obtain ⟨r15, r14, rfl, h14⟩ := aI h12
    obtain ⟨snumber, r17, rfl, h16⟩ := iI h14
    obtain ⟨sfirst, r19, rfl, h18⟩ := iI h16
    obtain ⟨slong, r21, rfl, h20⟩ := iI h18
    obtain ⟨ssum, r23, rfl, h22⟩ := iI h20
    obtain ⟨rfl, h23⟩ := nilK_inv h22
    obtain ⟨place, r25, rfl, h25⟩ := iI h23
    obtain ⟨top, r27, rfl, h27⟩ := iI h25
    obtain ⟨soff, r29, rfl, h29⟩ := bI h27
    obtain ⟨rfl, h30⟩ := nilK_inv h29
    obtain ⟨r33, r31, rfl, h33⟩ := bA h30
    obtain ⟨dn, r35, rfl, h35⟩ := zI h33
    obtain ⟨off, r37, rfl, h37⟩ := bI h35
    obtain ⟨cut, r39, rfl, h39⟩ := bI h37
    obtain ⟨whole, r41, rfl, h41⟩ := iI h39
    obtain ⟨kept, r43, rfl, h43⟩ := iI h41
    obtain ⟨writes, r45, rfl, h45⟩ := iI h43
    obtain ⟨rfl, h46⟩ := nilK_inv h45
    obtain ⟨pairs, r47, rfl, h48⟩ := bM h46
    obtain ⟨secs, r49, rfl, h50⟩ := bR h48
    obtain ⟨rfl, h51⟩ := bNilK_inv h50
    have h := h51
    refine ⟨_, _, rfl, rfl, ?_⟩
    rw [B20_eq key snumber sfirst slong ssum place top soff dn off cut whole kept writes pairs secs K]
    exact ⟨rfl, h⟩))) _
end Pv

namespace Pv
open Go Go.Proofs

theorem B16_eq (snumber : Int) (sfirst : Int) (slong : Int) (ssum : Int) (place : Int) (top : Int) (soff : Bool) (dn : Nat) (off : Bool) (cut : Bool) (whole : Int) (kept : Int) (writes : Int) (pairs : List PV) (secs : List PV) (K : List Blk → List PV → Prop) : evF C16 Try.f16 [(.box true 57 (.agg [(.ptr 1 64 0 []), (.mapr 2), (.agg [(.int .u64 snumber), (.int .i64 sfirst), (.int .i64 slong), (.int .u32 ssum)]), (.int .i64 place), (.int .u64 top), (.bool soff)])), (.box true 64 (.agg [(.sl 3 111 0 dn), (.bool off), (.bool cut), (.int .i64 whole), (.int .i64 kept), (.int .i64 writes)])), (.map false 9 77 pairs), (.row true 111 secs)] [(.ptr 0 57 0 [])] K = (([(.box true 57 (.agg [(.ptr 1 64 0 []), (.mapr 2), (.agg [(.int .u64 snumber), (.int .i64 sfirst), (.int .i64 slong), (.int .u32 ssum)]), (.int .i64 place), (.int .u64 top), (.bool soff)])), (.box true 64 (.agg [(.sl 3 111 0 dn), (.bool off), (.bool cut), (.int .i64 whole), (.int .i64 kept), (.int .i64 writes)])), (.map false 9 77 pairs), (.row true 111 secs)] : List Blk).length = 4 ∧ B16 snumber sfirst slong ssum place top soff dn off cut whole kept writes pairs secs (fun z0 z1 z2 z3 z4 z5 z6 z7 z8 z9 z10 z11 z12 z13 z14 z15 => K [(.box true 57 (.agg [(.ptr 1 64 0 []), (.mapr 2), (.agg [(.int .u64 z1), (.int .i64 z2), (.int .i64 z3), (.int .u32 z4)]), (.int .i64 z5), (.int .u64 z6), (.bool z7)])), (.box true 64 (.agg [(.sl 3 111 0 z8), (.bool z9), (.bool z10), (.int .i64 z11), (.int .i64 z12), (.int .i64 z13)])), (.map false 9 77 z14), (.row true 111 z15)] [(.list 9 z0)])) := by kernel_rfl
theorem W16_of (hT : AllSound Try.prog pvT pvG T16) : Sound Try.prog pvT pvG 16 W16 := Sound.weak (evF_sound (C := C16) (Base.of pvT_fits pvT_sized pvT_eq hT pvMixed pvIt_ok) Try.func16 (LoopsOk.of (C := C16) (fn := Try.f16) (l := []) (g := []) (by kernel_rfl) rfl (by kernel_rfl) trivial (RestOk.all rfl _) trivial) (evF_to (C := C16) (fun bs t K h0 => by
    unfold P16 at h0
    obtain ⟨r2, rfl, h2⟩ := pI h0
    obtain ⟨rfl, h3⟩ := nilK_inv h2
    obtain ⟨r6, r4, rfl, h6⟩ := bA h3
    obtain ⟨r8, rfl, h8⟩ := pI h6
    obtain ⟨r10, rfl, h10⟩ := mI h8
    obtain ⟨r13, r12, rfl, h12⟩ := aI h10
    obtain ⟨snumber, r15, rfl, h14⟩ := iI h12
    obtain ⟨sfirst, r17, rfl, h16⟩ := iI h14
    obtain ⟨slong, r19, rfl, h18⟩ := iI h16
    obtain ⟨ssum, r21, rfl, h20⟩ := iI h18
    obtain ⟨rfl, h21⟩ := nilK_inv h20
    obtain ⟨place, r23, rfl, h23⟩ := iI h21
    obtain ⟨top, r25, rfl, h25⟩ := iI h23
    obtain ⟨soff, r27, rfl, h27⟩ := bI h25
    obtain ⟨rfl, h28⟩ := nilK_inv h27
    obtain ⟨r31, r29, rfl, h31⟩ := bA h28
    obtain ⟨dn, r33, rfl, h33⟩ := zI h31
    obtain ⟨off, r35, rfl, h35⟩ := bI h33
    obtain ⟨cut, r37, rfl, h37⟩ := bI h35
    obtain ⟨whole, r39, rfl, h39⟩ := iI h37
    obtain ⟨kept, r41, rfl, h41⟩ := iI h39
    obtain ⟨writes, r43, rfl, h43⟩ := iI h41
    obtain ⟨rfl, h44⟩ := nilK_inv h43
    obtain ⟨pairs, r45, rfl, h46⟩ := bM h44
    obtain ⟨secs, r47, rfl, h48⟩ := bR h46
    obtain ⟨rfl, h49⟩ := bNilK_inv h48
    have h := h49
    refine ⟨_, _, rfl, rfl, ?_⟩
    rw [B16_eq snumber sfirst slong ssum place top soff dn off cut whole kept writes pairs secs K]
    exact ⟨rfl, h⟩))) _
end Pv

namespace Pv
open Go Go.Proofs

theorem B44_eq (uat : Int) (many : Int) (dn : Nat) (off : Bool) (cut : Bool) (whole : Int) (kept : Int) (writes : Int) (secs : List PV) (K : List Blk → List PV → Prop) : evF C44 Try.f44 [(.box true 64 (.agg [(.sl 1 111 0 dn), (.bool off), (.bool cut), (.int .i64 whole), (.int .i64 kept), (.int .i64 writes)])), (.row true 111 secs)] [(.ptr 0 64 0 []), (.int .i64 uat), (.int .i64 many)] K = (([(.box true 64 (.agg [(.sl 1 111 0 dn), (.bool off), (.bool cut), (.int .i64 whole), (.int .i64 kept), (.int .i64 writes)])), (.row true 111 secs)] : List Blk).length = 2 ∧ B44 uat many dn off cut whole kept writes secs (fun z0 z1 z2 z3 z4 z5 z6 z7 => K [(.box true 64 (.agg [(.sl 1 111 0 z1), (.bool z2), (.bool z3), (.int .i64 z4), (.int .i64 z5), (.int .i64 z6)])), (.row true 111 z7)] [(.int .i64 z0)])) := by kernel_rfl
theorem W44_of (hT : AllSound Try.prog pvT pvG T44) : Sound Try.prog pvT pvG 44 W44 := Sound.weak (evF_sound (C := C44) (Base.of pvT_fits pvT_sized pvT_eq hT pvMixed pvIt_ok) Try.func44 (LoopsOk.of (C := C44) (fn := Try.f44) (l := []) (g := []) (by kernel_rfl) rfl (by kernel_rfl) trivial (RestOk.all rfl _) trivial) (evF_to (C := C44) (fun bs t K h0 => by
    unfold P44 at h0
    obtain ⟨r2, rfl, h2⟩ := pI h0
    obtain ⟨uat, r4, rfl, h4⟩ := iI h2
    obtain ⟨many, r6, rfl, h6⟩ := iI h4
    obtain ⟨rfl, h7⟩ := nilK_inv h6
    obtain ⟨r10, r8, rfl, h10⟩ := bA h7
    obtain ⟨dn, r12, rfl, h12⟩ := zI h10
    obtain ⟨off, r14, rfl, h14⟩ := bI h12
    obtain ⟨cut, r16, rfl, h16⟩ := bI h14
    obtain ⟨whole, r18, rfl, h18⟩ := iI h16
    obtain ⟨kept, r20, rfl, h20⟩ := iI h18
    obtain ⟨writes, r22, rfl, h22⟩ := iI h20
    obtain ⟨rfl, h23⟩ := nilK_inv h22
    obtain ⟨secs, r24, rfl, h25⟩ := bR h23
    obtain ⟨rfl, h26⟩ := bNilK_inv h25
    have h := h26
    refine ⟨_, _, rfl, rfl, ?_⟩
    rw [B44_eq uat many dn off cut whole kept writes secs K]
    exact ⟨rfl, h⟩))) _
end Pv

namespace Pv
open Go Go.Proofs

theorem B13_eq (dn : Nat) (off : Bool) (cut : Bool) (whole : Int) (kept : Int) (writes : Int) (secs : List PV) (K : List Blk → List PV → Prop) : evF C13 Try.f13 [(.box true 64 (.agg [(.sl 1 111 0 dn), (.bool off), (.bool cut), (.int .i64 whole), (.int .i64 kept), (.int .i64 writes)])), (.row true 111 secs)] [(.ptr 0 64 0 [])] K = (([(.box true 64 (.agg [(.sl 1 111 0 dn), (.bool off), (.bool cut), (.int .i64 whole), (.int .i64 kept), (.int .i64 writes)])), (.row true 111 secs)] : List Blk).length = 2 ∧ B13 dn off cut whole kept writes secs (fun z0 z1 z2 z3 z4 z5 z6 z7 => K [(.box true 64 (.agg [(.sl 1 111 0 z1), (.bool z2), (.bool z3), (.int .i64 z4), (.int .i64 z5), (.int .i64 z6)])), (.row true 111 z7)] [(.int .i64 z0)])) := by kernel_rfl
theorem W13_of (hT : AllSound Try.prog pvT pvG T13) : Sound Try.prog pvT pvG 13 W13 := Sound.weak (evF_sound (C := C13) (Base.of pvT_fits pvT_sized pvT_eq hT pvMixed pvIt_ok) Try.func13 (LoopsOk.of (C := C13) (fn := Try.f13) (l := []) (g := []) (by kernel_rfl) rfl (by kernel_rfl) trivial (RestOk.all rfl _) trivial) (evF_to (C := C13) (fun bs t K h0 => by
    unfold P13 at h0
    obtain ⟨r2, rfl, h2⟩ := pI h0
    obtain ⟨rfl, h3⟩ := nilK_inv h2
    obtain ⟨r6, r4, rfl, h6⟩ := bA h3
    obtain ⟨dn, r8, rfl, h8⟩ := zI h6
    obtain ⟨off, r10, rfl, h10⟩ := bI h8
    obtain ⟨cut, r12, rfl, h12⟩ := bI h10
    obtain ⟨whole, r14, rfl, h14⟩ := iI h12
    obtain ⟨kept, r16, rfl, h16⟩ := iI h14
    obtain ⟨writes, r18, rfl, h18⟩ := iI h16
    obtain ⟨rfl, h19⟩ := nilK_inv h18
    obtain ⟨secs, r20, rfl, h21⟩ := bR h19
    obtain ⟨rfl, h22⟩ := bNilK_inv h21
    have h := h22
    refine ⟨_, _, rfl, rfl, ?_⟩
    rw [B13_eq dn off cut whole kept writes secs K]
    exact ⟨rfl, h⟩))) _
end Pv

namespace Pv
open Go Go.Proofs

theorem B51_eq (most : Int) (rb : List PV) (made : Bool) (torn : Bool) (K : List Blk → List PV → Prop) : evF C51 Try.f51 [(.box true 132 (.agg [(.list 5 rb), (.bool made), (.bool torn)]))] [(.ptr 0 132 0 []), (.int .i64 most)] K = (([(.box true 132 (.agg [(.list 5 rb), (.bool made), (.bool torn)]))] : List Blk).length = 1 ∧ B51 most rb made torn (fun z0 z1 z2 z3 z4 => K [(.box true 132 (.agg [(.list 5 z2), (.bool z3), (.bool z4)]))] [(.list 5 z0), (.int .i64 z1)])) := by kernel_rfl
theorem W51_of (hT : AllSound Try.prog pvT pvG T51) : Sound Try.prog pvT pvG 51 W51 := Sound.weak (evF_sound (C := C51) (Base.of pvT_fits pvT_sized pvT_eq hT pvMixed pvIt_ok) Try.func51 (LoopsOk.of (C := C51) (fn := Try.f51) (l := []) (g := []) (by kernel_rfl) rfl (by kernel_rfl) trivial (RestOk.all rfl _) trivial) (evF_to (C := C51) (fun bs t K h0 => by
    unfold P51 at h0
    obtain ⟨r2, rfl, h2⟩ := pI h0
    obtain ⟨most, r4, rfl, h4⟩ := iI h2
    obtain ⟨rfl, h5⟩ := nilK_inv h4
    obtain ⟨r8, r6, rfl, h8⟩ := bA h5
    obtain ⟨rb, r10, rfl, h10⟩ := lI h8
    obtain ⟨made, r12, rfl, h12⟩ := bI h10
    obtain ⟨torn, r14, rfl, h14⟩ := bI h12
    obtain ⟨rfl, h15⟩ := nilK_inv h14
    obtain ⟨rfl, h16⟩ := bNilK_inv h15
    have h := h16
    refine ⟨_, _, rfl, rfl, ?_⟩
    rw [B51_eq most rb made torn K]
    exact ⟨rfl, h⟩))) _
end Pv

namespace Pv
open Go Go.Proofs

theorem B70_eq (rb : List PV) (made : Bool) (torn : Bool) (K : List Blk → List PV → Prop) : evF C70 Try.f70 [(.box true 132 (.agg [(.list 5 rb), (.bool made), (.bool torn)]))] [(.ptr 0 132 0 [])] K = (([(.box true 132 (.agg [(.list 5 rb), (.bool made), (.bool torn)]))] : List Blk).length = 1 ∧ B70 rb made torn (fun z0 z1 z2 z3 => K [(.box true 132 (.agg [(.list 5 z1), (.bool z2), (.bool z3)]))] [(.bool z0)])) := by kernel_rfl
theorem W70_of (hT : AllSound Try.prog pvT pvG T70) : Sound Try.prog pvT pvG 70 W70 := Sound.weak (evF_sound (C := C70) (Base.of pvT_fits pvT_sized pvT_eq hT pvMixed pvIt_ok) Try.func70 (LoopsOk.of (C := C70) (fn := Try.f70) (l := []) (g := []) (by kernel_rfl) rfl (by kernel_rfl) trivial (RestOk.all rfl _) trivial) (evF_to (C := C70) (fun bs t K h0 => by
    unfold P70 at h0
    obtain ⟨r2, rfl, h2⟩ := pI h0
    obtain ⟨rfl, h3⟩ := nilK_inv h2
    obtain ⟨r6, r4, rfl, h6⟩ := bA h3
    obtain ⟨rb, r8, rfl, h8⟩ := lI h6
    obtain ⟨made, r10, rfl, h10⟩ := bI h8
    obtain ⟨torn, r12, rfl, h12⟩ := bI h10
    obtain ⟨rfl, h13⟩ := nilK_inv h12
    obtain ⟨rfl, h14⟩ := bNilK_inv h13
    have h := h14
    refine ⟨_, _, rfl, rfl, ?_⟩
    rw [B70_eq rb made torn K]
    exact ⟨rfl, h⟩))) _
end Pv

namespace Pv
open Go Go.Proofs

theorem B6_eq (sectors0 : Int) (K : List Blk → List PV → Prop) : evF C6 Try.f6 [] [(.int .i64 sectors0)] K = (([] : List Blk).length = 0 ∧ B6 sectors0 (K [] [.nilp, (.int .i64 2)]) (fun z0 z1 => K [(.box true 64 (.agg [(.sl 1 111 0 z0), (.bool false), (.bool false), (.int .i64 0), (.int .i64 0), (.int .i64 0)])), (.row true 111 z1)] [(.ptr 0 64 0 []), (.int .i64 0)])) := by kernel_rfl
theorem W6_of (hT : AllSound Try.prog pvT pvG T6) : Sound Try.prog pvT pvG 6 W6 := Sound.weak (evF_sound (C := C6) (Base.of pvT_fits pvT_sized pvT_eq hT pvMixed pvIt_ok) Try.func6 (LoopsOk.of (C := C6) (fn := Try.f6) (l := []) (g := []) (by kernel_rfl) rfl (by kernel_rfl) trivial (RestOk.all rfl _) trivial) (evF_to (C := C6) (fun bs t K h0 => by
    unfold P6 at h0
    obtain ⟨sectors0, r2, rfl, h2⟩ := iI h0
    obtain ⟨rfl, h3⟩ := nilK_inv h2
    obtain ⟨rfl, h4⟩ := bNilK_inv h3
    have h := h4
    refine ⟨_, _, rfl, rfl, ?_⟩
    rw [B6_eq sectors0 K]
    exact ⟨rfl, h⟩))) _
end Pv

namespace Pv
open Go Go.Proofs

theorem B37_eq (m0 : List PV) (K : List Blk → List PV → Prop) : evF C37 Try.f37 [] [(.dmap 9 77 m0)] K = (([] : List Blk).length = 0 ∧ B37 m0 (fun z0 => K [(.box true 51 (.dmap 9 77 z0))] [(.fn 59 [(.ptr 0 51 0 [])])])) := by kernel_rfl
theorem W37_of (hT : AllSound Try.prog pvT pvG T37) : Sound Try.prog pvT pvG 37 W37 := Sound.weak (evF_sound (C := C37) (Base.of pvT_fits pvT_sized pvT_eq hT pvMixed pvIt_ok) Try.func37 (LoopsOk.of (C := C37) (fn := Try.f37) (l := []) (g := []) (by kernel_rfl) rfl (by kernel_rfl) trivial (RestOk.all rfl _) trivial) (evF_to (C := C37) (fun bs t K h0 => by
    unfold P37 at h0
    obtain ⟨r1, r2, rfl, h1⟩ := consK_inv h0
    obtain ⟨m0, rfl, h2⟩ := dmapK_inv h1
    obtain ⟨rfl, h3⟩ := nilK_inv h2
    obtain ⟨rfl, h4⟩ := bNilK_inv h3
    have h := h4
    refine ⟨_, _, rfl, rfl, ?_⟩
    rw [B37_eq m0 K]
    exact ⟨rfl, h⟩))) _
end Pv

namespace Pv
open Go Go.Proofs

theorem B38_eq (s0 : ByteArray) (prefix1 : ByteArray) (K : List Blk → List PV → Prop) : evF C38 Try.f38 [] [(.str s0), (.str prefix1)] K = (([] : List Blk).length = 0 ∧ B38 s0 prefix1 (fun z0 => K [] [(.bool z0)])) := by kernel_rfl
theorem W38_of (hT : AllSound Try.prog pvT pvG T38) : Sound Try.prog pvT pvG 38 W38 := Sound.weak (evF_sound (C := C38) (Base.of pvT_fits pvT_sized pvT_eq hT pvMixed pvIt_ok) Try.func38 (LoopsOk.of (C := C38) (fn := Try.f38) (l := []) (g := []) (by kernel_rfl) rfl (by kernel_rfl) trivial (RestOk.all rfl _) trivial) (evF_to (C := C38) (fun bs t K h0 => by
    unfold P38 at h0
    obtain ⟨s0, r2, rfl, h2⟩ := sI h0
    obtain ⟨prefix1, r4, rfl, h4⟩ := sI h2
    obtain ⟨rfl, h5⟩ := nilK_inv h4
    obtain ⟨rfl, h6⟩ := bNilK_inv h5
    have h := h6
    refine ⟨_, _, rfl, rfl, ?_⟩
    rw [B38_eq s0 prefix1 K]
    exact ⟨rfl, h⟩))) _
end Pv

namespace Pv
open Go Go.Proofs

theorem B26_eq (long0 : Int) (K : List Blk → List PV → Prop) : evF C26 Try.f26 [] [(.int .i64 long0)] K = (([] : List Blk).length = 0 ∧ B26 long0 (fun z0 => K [] [(.int .i64 z0)])) := by kernel_rfl
theorem W26_of (hT : AllSound Try.prog pvT pvG T26) : Sound Try.prog pvT pvG 26 W26 := Sound.weak (evF_sound (C := C26) (Base.of pvT_fits pvT_sized pvT_eq hT pvMixed pvIt_ok) Try.func26 (LoopsOk.of (C := C26) (fn := Try.f26) (l := []) (g := []) (by kernel_rfl) rfl (by kernel_rfl) trivial (RestOk.all rfl _) trivial) (evF_to (C := C26) (fun bs t K h0 => by
    unfold P26 at h0
    obtain ⟨long0, r2, rfl, h2⟩ := iI h0
    obtain ⟨rfl, h3⟩ := nilK_inv h2
    obtain ⟨rfl, h4⟩ := bNilK_inv h3
    have h := h4
    refine ⟨_, _, rfl, rfl, ?_⟩
    rw [B26_eq long0 K]
    exact ⟨rfl, h⟩))) _
end Pv

namespace Pv
open Go Go.Proofs

theorem B68_eq (w0 : Int) (K : List Blk → List PV → Prop) : evF C68 Try.f68 [] [(.int .i64 w0)] K = (([] : List Blk).length = 0 ∧ B68 w0 (fun z0 => K [] [(.bool z0)])) := by kernel_rfl
theorem W68_of (hT : AllSound Try.prog pvT pvG T68) : Sound Try.prog pvT pvG 68 W68 := Sound.weak (evF_sound (C := C68) (Base.of pvT_fits pvT_sized pvT_eq hT pvMixed pvIt_ok) Try.func68 (LoopsOk.of (C := C68) (fn := Try.f68) (l := []) (g := []) (by kernel_rfl) rfl (by kernel_rfl) trivial (RestOk.all rfl _) trivial) (evF_to (C := C68) (fun bs t K h0 => by
    unfold P68 at h0
    obtain ⟨w0, r2, rfl, h2⟩ := iI h0
    obtain ⟨rfl, h3⟩ := nilK_inv h2
    obtain ⟨rfl, h4⟩ := bNilK_inv h3
    have h := h4
    refine ⟨_, _, rfl, rfl, ?_⟩
    rw [B68_eq w0 K]
    exact ⟨rfl, h⟩))) _
end Pv
