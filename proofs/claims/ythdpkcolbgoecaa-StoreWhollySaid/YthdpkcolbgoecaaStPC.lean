/- A part of the proof. No conditions of its own beyond those that its theorems name. -/
import Derived.Test.YthdpkcolbgoecaaStD

namespace Pv
open Go Go.Proofs

theorem J24_15_eq (aa : Nat) (ab : Bool) (ac : Bool) (ad : Int) (ae : Int) (af : Int) (x1 : List PV) (ag : Int) (ah : Int) (ai : Int) (aj : Int) (K : Ex → List PV → List Blk → Prop) : J24_15 aa ab ac ad ae af x1 ag ah ai aj (K .ret (skU 4 ((.ptr 2 55 0 []) :: (.int .i64 0) :: skU 90 [])) [(.box true 64 (.agg [(.sl 1 111 0 aa), (.bool ab), (.bool ac), (.int .i64 ad), (.int .i64 ae), (.int .i64 af)])), (.row true 111 x1), (.box true 55 (.agg [(.int .u64 ag), (.int .i64 ah), (.int .i64 ai), (.int .u32 aj)]))]) = evC C24 (codeOf Try.f24 [1, 1, 1, 1, 1, 1, 1, 1, 1, 1, 1, 1]) (mkSt (skU 4 ((.ptr 2 55 0 []) :: skU 91 [])) [(.box true 64 (.agg [(.sl 1 111 0 aa), (.bool ab), (.bool ac), (.int .i64 ad), (.int .i64 ae), (.int .i64 af)])), (.row true 111 x1), (.box true 55 (.agg [(.int .u64 ag), (.int .i64 ah), (.int .i64 ai), (.int .u32 aj)]))]) (onSt K) := by kernel_rfl
theorem Q24_15_ok : RestOk C24 (codeOf Try.f24 [1, 1, 1, 1, 1, 1, 1, 1, 1, 1, 1, 1]) := RestOk.to (l := Q24_15) (by kernel_rfl) (by
    intro t bs K h0
    unfold Q24_15 at h0
    obtain ⟨r1, rfl, h1⟩ := skipU_inv h0
    obtain ⟨r3, rfl, h3⟩ := pI h1
    obtain ⟨r4, rfl, h4⟩ := skipU_inv h3
    obtain ⟨rfl, h5⟩ := nilK_inv h4
    obtain ⟨r8, r6, rfl, h8⟩ := bA h5
    obtain ⟨aa, r10, rfl, h10⟩ := zI h8
    obtain ⟨ab, r12, rfl, h12⟩ := bI h10
    obtain ⟨ac, r14, rfl, h14⟩ := bI h12
    obtain ⟨ad, r16, rfl, h16⟩ := iI h14
    obtain ⟨ae, r18, rfl, h18⟩ := iI h16
    obtain ⟨af, r20, rfl, h20⟩ := iI h18
    obtain ⟨rfl, h21⟩ := nilK_inv h20
    obtain ⟨x1, r22, rfl, h23⟩ := bR h21
    obtain ⟨r26, r24, rfl, h26⟩ := bA h23
    obtain ⟨ag, r28, rfl, h28⟩ := iI h26
    obtain ⟨ah, r30, rfl, h30⟩ := iI h28
    obtain ⟨ai, r32, rfl, h32⟩ := iI h30
    obtain ⟨aj, r34, rfl, h34⟩ := iI h32
    obtain ⟨rfl, h35⟩ := nilK_inv h34
    obtain ⟨rfl, h36⟩ := bNilK_inv h35
    have h := h36
    refine ⟨_, _, rfl, rfl, ?_⟩
    rw [← J24_15_eq aa ab ac ad ae af x1 ag ah ai aj K]
    exact h)
theorem J24_13_eq (t6 : List PV) (aa : Nat) (ab : Bool) (ac : Bool) (ad : Int) (ae : Int) (af : Int) (x1 : List PV) (ag : Int) (ah : Int) (ai : Int) (aj : Int) (K : Ex → List PV → List Blk → Prop) : J24_13 t6 aa ab ac ad ae af x1 ag ah ai aj (fun z1 z2 z3 z4 z5 z6 z7 z8 z9 z10 z11 => K .ret (skU 4 ((.ptr 2 55 0 []) :: (.int .i64 0) :: skU 90 [])) [(.box true 64 (.agg [(.sl 1 111 0 z1), (.bool z2), (.bool z3), (.int .i64 z4), (.int .i64 z5), (.int .i64 z6)])), (.row true 111 z7), (.box true 55 (.agg [(.int .u64 z8), (.int .i64 z9), (.int .i64 z10), (.int .u32 z11)]))]) = evC C24 (codeOf Try.f24 [1, 1, 1, 1, 1, 1, 1, 1, 1, 1, 1]) (mkSt ((.ptr 0 64 0 []) :: skU 3 ((.ptr 2 55 0 []) :: skU 1 ((.list 5 t6) :: skU 89 []))) [(.box true 64 (.agg [(.sl 1 111 0 aa), (.bool ab), (.bool ac), (.int .i64 ad), (.int .i64 ae), (.int .i64 af)])), (.row true 111 x1), (.box true 55 (.agg [(.int .u64 ag), (.int .i64 ah), (.int .i64 ai), (.int .u32 aj)]))]) (onSt K) := by kernel_rfl
theorem Q24_13_ok : RestOk C24 (codeOf Try.f24 [1, 1, 1, 1, 1, 1, 1, 1, 1, 1, 1]) := RestOk.to (l := Q24_13) (by kernel_rfl) (by
    intro t bs K h0
    unfold Q24_13 at h0
    obtain ⟨r2, rfl, h2⟩ := pI h0
    obtain ⟨r3, rfl, h3⟩ := skipU_inv h2
    obtain ⟨r5, rfl, h5⟩ := pI h3
    obtain ⟨r6, rfl, h6⟩ := skipU_inv h5
    obtain ⟨t6, r8, rfl, h8⟩ := lI h6
    obtain ⟨r9, rfl, h9⟩ := skipU_inv h8
    obtain ⟨rfl, h10⟩ := nilK_inv h9
    obtain ⟨r13, r11, rfl, h13⟩ := bA h10
    obtain ⟨aa, r15, rfl, h15⟩ := zI h13
    obtain ⟨ab, r17, rfl, h17⟩ := bI h15
    obtain ⟨ac, r19, rfl, h19⟩ := bI h17
    obtain ⟨ad, r21, rfl, h21⟩ := iI h19
    obtain ⟨ae, r23, rfl, h23⟩ := iI h21
    obtain ⟨af, r25, rfl, h25⟩ := iI h23
    obtain ⟨rfl, h26⟩ := nilK_inv h25
    obtain ⟨x1, r27, rfl, h28⟩ := bR h26
    obtain ⟨r31, r29, rfl, h31⟩ := bA h28
    obtain ⟨ag, r33, rfl, h33⟩ := iI h31
    obtain ⟨ah, r35, rfl, h35⟩ := iI h33
    obtain ⟨ai, r37, rfl, h37⟩ := iI h35
    obtain ⟨aj, r39, rfl, h39⟩ := iI h37
    obtain ⟨rfl, h40⟩ := nilK_inv h39
    obtain ⟨rfl, h41⟩ := bNilK_inv h40
    have h := h41
    refine ⟨_, _, rfl, rfl, ?_⟩
    rw [← J24_13_eq t6 aa ab ac ad ae af x1 ag ah ai aj K]
    exact h)
theorem J24_12_eq (t6 : List PV) (t8 : Int) (t9 : Int) (aa : Nat) (ab : Bool) (ac : Bool) (ad : Int) (ae : Int) (af : Int) (x1 : List PV) (ag : Int) (ah : Int) (ai : Int) (aj : Int) (K : Ex → List PV → List Blk → Prop) : J24_12 t6 t8 t9 aa ab ac ad ae af x1 ag ah ai aj (fun z1 z2 z3 z4 z5 z6 z7 z8 z9 z10 z11 => K .ret (skU 4 ((.ptr 2 55 0 []) :: (.int .i64 0) :: skU 90 [])) [(.box true 64 (.agg [(.sl 1 111 0 z1), (.bool z2), (.bool z3), (.int .i64 z4), (.int .i64 z5), (.int .i64 z6)])), (.row true 111 z7), (.box true 55 (.agg [(.int .u64 z8), (.int .i64 z9), (.int .i64 z10), (.int .u32 z11)]))]) = evC C24 (codeOf Try.f24 [1, 1, 1, 1, 1, 1, 1, 1, 1, 1]) (mkSt ((.ptr 0 64 0 []) :: skU 3 ((.ptr 2 55 0 []) :: skU 1 ((.list 5 t6) :: skU 1 ((.int .u64 t8) :: (.int .u64 t9) :: skU 86 [])))) [(.box true 64 (.agg [(.sl 1 111 0 aa), (.bool ab), (.bool ac), (.int .i64 ad), (.int .i64 ae), (.int .i64 af)])), (.row true 111 x1), (.box true 55 (.agg [(.int .u64 ag), (.int .i64 ah), (.int .i64 ai), (.int .u32 aj)]))]) (onSt K) := by kernel_rfl
theorem Q24_12_ok : RestOk C24 (codeOf Try.f24 [1, 1, 1, 1, 1, 1, 1, 1, 1, 1]) := RestOk.to (l := Q24_12) (by kernel_rfl) (by
    intro t bs K h0
    unfold Q24_12 at h0
    obtain ⟨r2, rfl, h2⟩ := pI h0
    obtain ⟨r3, rfl, h3⟩ := skipU_inv h2
    obtain ⟨r5, rfl, h5⟩ := pI h3
    obtain ⟨r6, rfl, h6⟩ := skipU_inv h5
    obtain ⟨t6, r8, rfl, h8⟩ := lI h6
    obtain ⟨r9, rfl, h9⟩ := skipU_inv h8
    obtain ⟨t8, r11, rfl, h11⟩ := iI h9
    obtain ⟨t9, r13, rfl, h13⟩ := iI h11
    obtain ⟨r14, rfl, h14⟩ := skipU_inv h13
    obtain ⟨rfl, h15⟩ := nilK_inv h14
    obtain ⟨r18, r16, rfl, h18⟩ := bA h15
    obtain ⟨aa, r20, rfl, h20⟩ := zI h18
    obtain ⟨ab, r22, rfl, h22⟩ := bI h20
    obtain ⟨ac, r24, rfl, h24⟩ := bI h22
    obtain ⟨ad, r26, rfl, h26⟩ := iI h24
    obtain ⟨ae, r28, rfl, h28⟩ := iI h26
    obtain ⟨af, r30, rfl, h30⟩ := iI h28
    obtain ⟨rfl, h31⟩ := nilK_inv h30
    obtain ⟨x1, r32, rfl, h33⟩ := bR h31
    obtain ⟨r36, r34, rfl, h36⟩ := bA h33
    obtain ⟨ag, r38, rfl, h38⟩ := iI h36
    obtain ⟨ah, r40, rfl, h40⟩ := iI h38
    obtain ⟨ai, r42, rfl, h42⟩ := iI h40
    obtain ⟨aj, r44, rfl, h44⟩ := iI h42
    obtain ⟨rfl, h45⟩ := nilK_inv h44
    obtain ⟨rfl, h46⟩ := bNilK_inv h45
    have h := h46
    refine ⟨_, _, rfl, rfl, ?_⟩
    rw [← J24_12_eq t6 t8 t9 aa ab ac ad ae af x1 ag ah ai aj K]
    exact h)
theorem J24_10_eq (t6 : List PV) (t8 : Int) (t9 : Int) (t10 : Int) (aa : Nat) (ab : Bool) (ac : Bool) (ad : Int) (ae : Int) (af : Int) (x1 : List PV) (ag : Int) (ah : Int) (ai : Int) (aj : Int) (K : Ex → List PV → List Blk → Prop) : J24_10 t6 t8 t9 t10 aa ab ac ad ae af x1 ag ah ai aj (fun z1 z2 z3 z4 z5 z6 z7 z8 z9 z10 z11 => K .ret (skU 4 ((.ptr 2 55 0 []) :: (.int .i64 0) :: skU 90 [])) [(.box true 64 (.agg [(.sl 1 111 0 z1), (.bool z2), (.bool z3), (.int .i64 z4), (.int .i64 z5), (.int .i64 z6)])), (.row true 111 z7), (.box true 55 (.agg [(.int .u64 z8), (.int .i64 z9), (.int .i64 z10), (.int .u32 z11)]))]) = evC C24 (codeOf Try.f24 [1, 1, 1, 1, 1, 1, 1, 1, 1]) (mkSt ((.ptr 0 64 0 []) :: skU 3 ((.ptr 2 55 0 []) :: skU 1 ((.list 5 t6) :: skU 1 ((.int .u64 t8) :: (.int .u64 t9) :: (.int .u64 t10) :: skU 85 [])))) [(.box true 64 (.agg [(.sl 1 111 0 aa), (.bool ab), (.bool ac), (.int .i64 ad), (.int .i64 ae), (.int .i64 af)])), (.row true 111 x1), (.box true 55 (.agg [(.int .u64 ag), (.int .i64 ah), (.int .i64 ai), (.int .u32 aj)]))]) (onSt K) := by kernel_rfl
theorem Q24_10_ok : RestOk C24 (codeOf Try.f24 [1, 1, 1, 1, 1, 1, 1, 1, 1]) := RestOk.to (l := Q24_10) (by kernel_rfl) (by
    intro t bs K h0
    unfold Q24_10 at h0
    obtain ⟨r2, rfl, h2⟩ := pI h0
    obtain ⟨r3, rfl, h3⟩ := skipU_inv h2
    obtain ⟨r5, rfl, h5⟩ := pI h3
    obtain ⟨r6, rfl, h6⟩ := skipU_inv h5
    obtain ⟨t6, r8, rfl, h8⟩ := lI h6
    obtain ⟨r9, rfl, h9⟩ := skipU_inv h8
    obtain ⟨t8, r11, rfl, h11⟩ := iI h9
    obtain ⟨t9, r13, rfl, h13⟩ := iI h11
    obtain ⟨t10, r15, rfl, h15⟩ := iI h13
    obtain ⟨r16, rfl, h16⟩ := skipU_inv h15
    obtain ⟨rfl, h17⟩ := nilK_inv h16
    obtain ⟨r20, r18, rfl, h20⟩ := bA h17
    obtain ⟨aa, r22, rfl, h22⟩ := zI h20
    obtain ⟨ab, r24, rfl, h24⟩ := bI h22
    obtain ⟨ac, r26, rfl, h26⟩ := bI h24
    obtain ⟨ad, r28, rfl, h28⟩ := iI h26
    obtain ⟨ae, r30, rfl, h30⟩ := iI h28
    obtain ⟨af, r32, rfl, h32⟩ := iI h30
    obtain ⟨rfl, h33⟩ := nilK_inv h32
    obtain ⟨x1, r34, rfl, h35⟩ := bR h33
    obtain ⟨r38, r36, rfl, h38⟩ := bA h35
    obtain ⟨ag, r40, rfl, h40⟩ := iI h38
    obtain ⟨ah, r42, rfl, h42⟩ := iI h40
    obtain ⟨ai, r44, rfl, h44⟩ := iI h42
    obtain ⟨aj, r46, rfl, h46⟩ := iI h44
    obtain ⟨rfl, h47⟩ := nilK_inv h46
    obtain ⟨rfl, h48⟩ := bNilK_inv h47
    have h := h48
    refine ⟨_, _, rfl, rfl, ?_⟩
    rw [← J24_10_eq t6 t8 t9 t10 aa ab ac ad ae af x1 ag ah ai aj K]
    exact h)
theorem J24_9_eq (t6 : List PV) (t8 : Int) (t9 : Int) (aa : Nat) (ab : Bool) (ac : Bool) (ad : Int) (ae : Int) (af : Int) (x1 : List PV) (ag : Int) (ah : Int) (ai : Int) (aj : Int) (K : Ex → List PV → List Blk → Prop) : J24_9 t6 t8 t9 aa ab ac ad ae af x1 ag ah ai aj (fun z1 z2 z3 z4 z5 z6 z7 z8 z9 z10 z11 => K .ret (skU 4 ((.ptr 2 55 0 []) :: (.int .i64 0) :: skU 90 [])) [(.box true 64 (.agg [(.sl 1 111 0 z1), (.bool z2), (.bool z3), (.int .i64 z4), (.int .i64 z5), (.int .i64 z6)])), (.row true 111 z7), (.box true 55 (.agg [(.int .u64 z8), (.int .i64 z9), (.int .i64 z10), (.int .u32 z11)]))]) = evC C24 (codeOf Try.f24 [1, 1, 1, 1, 1, 1, 1, 1]) (mkSt ((.ptr 0 64 0 []) :: skU 3 ((.ptr 2 55 0 []) :: skU 1 ((.list 5 t6) :: skU 1 ((.int .u64 t8) :: (.int .u64 t9) :: skU 86 [])))) [(.box true 64 (.agg [(.sl 1 111 0 aa), (.bool ab), (.bool ac), (.int .i64 ad), (.int .i64 ae), (.int .i64 af)])), (.row true 111 x1), (.box true 55 (.agg [(.int .u64 ag), (.int .i64 ah), (.int .i64 ai), (.int .u32 aj)]))]) (onSt K) := by kernel_rfl
theorem Q24_9_ok : RestOk C24 (codeOf Try.f24 [1, 1, 1, 1, 1, 1, 1, 1]) := RestOk.to (l := Q24_9) (by kernel_rfl) (by
    intro t bs K h0
    unfold Q24_9 at h0
    obtain ⟨r2, rfl, h2⟩ := pI h0
    obtain ⟨r3, rfl, h3⟩ := skipU_inv h2
    obtain ⟨r5, rfl, h5⟩ := pI h3
    obtain ⟨r6, rfl, h6⟩ := skipU_inv h5
    obtain ⟨t6, r8, rfl, h8⟩ := lI h6
    obtain ⟨r9, rfl, h9⟩ := skipU_inv h8
    obtain ⟨t8, r11, rfl, h11⟩ := iI h9
    obtain ⟨t9, r13, rfl, h13⟩ := iI h11
    obtain ⟨r14, rfl, h14⟩ := skipU_inv h13
    obtain ⟨rfl, h15⟩ := nilK_inv h14
    obtain ⟨r18, r16, rfl, h18⟩ := bA h15
    obtain ⟨aa, r20, rfl, h20⟩ := zI h18
    obtain ⟨ab, r22, rfl, h22⟩ := bI h20
    obtain ⟨ac, r24, rfl, h24⟩ := bI h22
    obtain ⟨ad, r26, rfl, h26⟩ := iI h24
    obtain ⟨ae, r28, rfl, h28⟩ := iI h26
    obtain ⟨af, r30, rfl, h30⟩ := iI h28
    obtain ⟨rfl, h31⟩ := nilK_inv h30
    obtain ⟨x1, r32, rfl, h33⟩ := bR h31
    obtain ⟨r36, r34, rfl, h36⟩ := bA h33
    obtain ⟨ag, r38, rfl, h38⟩ := iI h36
    obtain ⟨ah, r40, rfl, h40⟩ := iI h38
    obtain ⟨ai, r42, rfl, h42⟩ := iI h40
    obtain ⟨aj, r44, rfl, h44⟩ := iI h42
    obtain ⟨rfl, h45⟩ := nilK_inv h44
    obtain ⟨rfl, h46⟩ := bNilK_inv h45
    have h := h46
    refine ⟨_, _, rfl, rfl, ?_⟩
    rw [← J24_9_eq t6 t8 t9 aa ab ac ad ae af x1 ag ah ai aj K]
    exact h)
theorem J24_8_eq (t6 : List PV) (t8 : Int) (t9 : Int) (aa : Nat) (ab : Bool) (ac : Bool) (ad : Int) (ae : Int) (af : Int) (x1 : List PV) (ag : Int) (ah : Int) (ai : Int) (aj : Int) (ak : List PV) (al : Bool) (am : Bool) (K : Ex → List PV → List Blk → Prop) : J24_8 t6 t8 t9 aa ab ac ad ae af x1 ag ah ai aj ak al am (fun z1 z2 z3 z4 z5 z6 z7 z8 z9 z10 z11 => K .ret (skU 4 ((.ptr 2 55 0 []) :: (.int .i64 0) :: skU 90 [])) [(.box true 64 (.agg [(.sl 1 111 0 z1), (.bool z2), (.bool z3), (.int .i64 z4), (.int .i64 z5), (.int .i64 z6)])), (.row true 111 z7), (.box true 55 (.agg [(.int .u64 z8), (.int .i64 z9), (.int .i64 z10), (.int .u32 z11)]))]) = evC C24 (codeOf Try.f24 [1, 1, 1, 1, 1, 1, 1]) (mkSt ((.ptr 0 64 0 []) :: skU 3 ((.ptr 2 55 0 []) :: skU 1 ((.list 5 t6) :: (.ptr 3 132 0 []) :: (.int .u64 t8) :: (.int .u64 t9) :: skU 86 []))) [(.box true 64 (.agg [(.sl 1 111 0 aa), (.bool ab), (.bool ac), (.int .i64 ad), (.int .i64 ae), (.int .i64 af)])), (.row true 111 x1), (.box true 55 (.agg [(.int .u64 ag), (.int .i64 ah), (.int .i64 ai), (.int .u32 aj)])), (.box true 132 (.agg [(.list 5 ak), (.bool al), (.bool am)]))]) (onSt K) := by kernel_rfl
theorem Q24_8_ok : RestOk C24 (codeOf Try.f24 [1, 1, 1, 1, 1, 1, 1]) := RestOk.to (l := Q24_8) (by kernel_rfl) (by
    intro t bs K h0
    unfold Q24_8 at h0
    obtain ⟨r2, rfl, h2⟩ := pI h0
    obtain ⟨r3, rfl, h3⟩ := skipU_inv h2
    obtain ⟨r5, rfl, h5⟩ := pI h3
    obtain ⟨r6, rfl, h6⟩ := skipU_inv h5
    obtain ⟨t6, r8, rfl, h8⟩ := lI h6
    obtain ⟨r10, rfl, h10⟩ := pI h8
    obtain ⟨t8, r12, rfl, h12⟩ := iI h10
    obtain ⟨t9, r14, rfl, h14⟩ := iI h12
    obtain ⟨r15, rfl, h15⟩ := skipU_inv h14
    obtain ⟨rfl, h16⟩ := nilK_inv h15
    obtain ⟨r19, r17, rfl, h19⟩ := bA h16
    obtain ⟨aa, r21, rfl, h21⟩ := zI h19
    obtain ⟨ab, r23, rfl, h23⟩ := bI h21
    obtain ⟨ac, r25, rfl, h25⟩ := bI h23
    obtain ⟨ad, r27, rfl, h27⟩ := iI h25
    obtain ⟨ae, r29, rfl, h29⟩ := iI h27
    obtain ⟨af, r31, rfl, h31⟩ := iI h29
    obtain ⟨rfl, h32⟩ := nilK_inv h31
    obtain ⟨x1, r33, rfl, h34⟩ := bR h32
    obtain ⟨r37, r35, rfl, h37⟩ := bA h34
    obtain ⟨ag, r39, rfl, h39⟩ := iI h37
    obtain ⟨ah, r41, rfl, h41⟩ := iI h39
    obtain ⟨ai, r43, rfl, h43⟩ := iI h41
    obtain ⟨aj, r45, rfl, h45⟩ := iI h43
    obtain ⟨rfl, h46⟩ := nilK_inv h45
    obtain ⟨r49, r47, rfl, h49⟩ := bA h46
    obtain ⟨ak, r51, rfl, h51⟩ := lI h49
    obtain ⟨al, r53, rfl, h53⟩ := bI h51
    obtain ⟨am, r55, rfl, h55⟩ := bI h53
    obtain ⟨rfl, h56⟩ := nilK_inv h55
    obtain ⟨rfl, h57⟩ := bNilK_inv h56
    have h := h57
    refine ⟨_, _, rfl, rfl, ?_⟩
    rw [← J24_8_eq t6 t8 t9 aa ab ac ad ae af x1 ag ah ai aj ak al am K]
    exact h)
theorem J24_7_eq (t6 : List PV) (aa : Nat) (ab : Bool) (ac : Bool) (ad : Int) (ae : Int) (af : Int) (x1 : List PV) (ag : Int) (ah : Int) (ai : Int) (aj : Int) (ak : List PV) (al : Bool) (am : Bool) (K : Ex → List PV → List Blk → Prop) : J24_7 t6 aa ab ac ad ae af x1 ag ah ai aj ak al am (fun z1 z2 z3 z4 z5 z6 z7 z8 z9 z10 z11 => K .ret (skU 4 ((.ptr 2 55 0 []) :: (.int .i64 0) :: skU 90 [])) [(.box true 64 (.agg [(.sl 1 111 0 z1), (.bool z2), (.bool z3), (.int .i64 z4), (.int .i64 z5), (.int .i64 z6)])), (.row true 111 z7), (.box true 55 (.agg [(.int .u64 z8), (.int .i64 z9), (.int .i64 z10), (.int .u32 z11)]))]) = evC C24 (codeOf Try.f24 [1, 1, 1, 1, 1, 1]) (mkSt ((.ptr 0 64 0 []) :: skU 3 ((.ptr 2 55 0 []) :: skU 1 ((.list 5 t6) :: (.ptr 3 132 0 []) :: skU 88 []))) [(.box true 64 (.agg [(.sl 1 111 0 aa), (.bool ab), (.bool ac), (.int .i64 ad), (.int .i64 ae), (.int .i64 af)])), (.row true 111 x1), (.box true 55 (.agg [(.int .u64 ag), (.int .i64 ah), (.int .i64 ai), (.int .u32 aj)])), (.box true 132 (.agg [(.list 5 ak), (.bool al), (.bool am)]))]) (onSt K) := by kernel_rfl
theorem Q24_7_ok : RestOk C24 (codeOf Try.f24 [1, 1, 1, 1, 1, 1]) := RestOk.to (l := Q24_7) (by kernel_rfl) (by
    intro t bs K h0
    unfold Q24_7 at h0
    obtain ⟨r2, rfl, h2⟩ := pI h0
    obtain ⟨r3, rfl, h3⟩ := skipU_inv h2
    obtain ⟨r5, rfl, h5⟩ := pI h3
    obtain ⟨r6, rfl, h6⟩ := skipU_inv h5
    obtain ⟨t6, r8, rfl, h8⟩ := lI h6
    obtain ⟨r10, rfl, h10⟩ := pI h8
    obtain ⟨r11, rfl, h11⟩ := skipU_inv h10
    obtain ⟨rfl, h12⟩ := nilK_inv h11
    obtain ⟨r15, r13, rfl, h15⟩ := bA h12
    obtain ⟨aa, r17, rfl, h17⟩ := zI h15
    obtain ⟨ab, r19, rfl, h19⟩ := bI h17
    obtain ⟨ac, r21, rfl, h21⟩ := bI h19
    obtain ⟨ad, r23, rfl, h23⟩ := iI h21
    obtain ⟨ae, r25, rfl, h25⟩ := iI h23
    obtain ⟨af, r27, rfl, h27⟩ := iI h25
    obtain ⟨rfl, h28⟩ := nilK_inv h27
    obtain ⟨x1, r29, rfl, h30⟩ := bR h28
    obtain ⟨r33, r31, rfl, h33⟩ := bA h30
    obtain ⟨ag, r35, rfl, h35⟩ := iI h33
    obtain ⟨ah, r37, rfl, h37⟩ := iI h35
    obtain ⟨ai, r39, rfl, h39⟩ := iI h37
    obtain ⟨aj, r41, rfl, h41⟩ := iI h39
    obtain ⟨rfl, h42⟩ := nilK_inv h41
    obtain ⟨r45, r43, rfl, h45⟩ := bA h42
    obtain ⟨ak, r47, rfl, h47⟩ := lI h45
    obtain ⟨al, r49, rfl, h49⟩ := bI h47
    obtain ⟨am, r51, rfl, h51⟩ := bI h49
    obtain ⟨rfl, h52⟩ := nilK_inv h51
    obtain ⟨rfl, h53⟩ := bNilK_inv h52
    have h := h53
    refine ⟨_, _, rfl, rfl, ?_⟩
    rw [← J24_7_eq t6 aa ab ac ad ae af x1 ag ah ai aj ak al am K]
    exact h)
theorem J24_6_eq (t6 : List PV) (aa : Nat) (ab : Bool) (ac : Bool) (ad : Int) (ae : Int) (af : Int) (x1 : List PV) (ag : Int) (ah : Int) (ai : Int) (aj : Int) (ak : List PV) (al : Bool) (am : Bool) (K : Ex → List PV → List Blk → Prop) : J24_6 t6 aa ab ac ad ae af x1 ag ah ai aj ak al am (fun z1 z2 z3 z4 z5 z6 z7 z8 z9 z10 z11 => K .ret (skU 4 ((.ptr 2 55 0 []) :: (.int .i64 0) :: skU 90 [])) [(.box true 64 (.agg [(.sl 1 111 0 z1), (.bool z2), (.bool z3), (.int .i64 z4), (.int .i64 z5), (.int .i64 z6)])), (.row true 111 z7), (.box true 55 (.agg [(.int .u64 z8), (.int .i64 z9), (.int .i64 z10), (.int .u32 z11)]))]) = evC C24 (codeOf Try.f24 [1, 1, 1, 1, 1]) (mkSt ((.ptr 0 64 0 []) :: skU 3 ((.ptr 2 55 0 []) :: skU 1 ((.list 5 t6) :: (.ptr 3 132 0 []) :: skU 88 []))) [(.box true 64 (.agg [(.sl 1 111 0 aa), (.bool ab), (.bool ac), (.int .i64 ad), (.int .i64 ae), (.int .i64 af)])), (.row true 111 x1), (.box true 55 (.agg [(.int .u64 ag), (.int .i64 ah), (.int .i64 ai), (.int .u32 aj)])), (.box true 132 (.agg [(.list 5 ak), (.bool al), (.bool am)]))]) (onSt K) := by kernel_rfl
theorem Q24_6_ok : RestOk C24 (codeOf Try.f24 [1, 1, 1, 1, 1]) := RestOk.to (l := Q24_6) (by kernel_rfl) (by
    intro t bs K h0
    unfold Q24_6 at h0
    obtain ⟨r2, rfl, h2⟩ := pI h0
    obtain ⟨r3, rfl, h3⟩ := skipU_inv h2
    obtain ⟨r5, rfl, h5⟩ := pI h3
    obtain ⟨r6, rfl, h6⟩ := skipU_inv h5
    obtain ⟨t6, r8, rfl, h8⟩ := lI h6
    obtain ⟨r10, rfl, h10⟩ := pI h8
    obtain ⟨r11, rfl, h11⟩ := skipU_inv h10
    obtain ⟨rfl, h12⟩ := nilK_inv h11
    obtain ⟨r15, r13, rfl, h15⟩ := bA h12
    obtain ⟨aa, r17, rfl, h17⟩ := zI h15
    obtain ⟨ab, r19, rfl, h19⟩ := bI h17
    obtain ⟨ac, r21, rfl, h21⟩ := bI h19
    obtain ⟨ad, r23, rfl, h23⟩ := iI h21
    obtain ⟨ae, r25, rfl, h25⟩ := iI h23
    obtain ⟨af, r27, rfl, h27⟩ := iI h25
    obtain ⟨rfl, h28⟩ := nilK_inv h27
    obtain ⟨x1, r29, rfl, h30⟩ := bR h28
    obtain ⟨r33, r31, rfl, h33⟩ := bA h30
    obtain ⟨ag, r35, rfl, h35⟩ := iI h33
    obtain ⟨ah, r37, rfl, h37⟩ := iI h35
    obtain ⟨ai, r39, rfl, h39⟩ := iI h37
    obtain ⟨aj, r41, rfl, h41⟩ := iI h39
    obtain ⟨rfl, h42⟩ := nilK_inv h41
    obtain ⟨r45, r43, rfl, h45⟩ := bA h42
    obtain ⟨ak, r47, rfl, h47⟩ := lI h45
    obtain ⟨al, r49, rfl, h49⟩ := bI h47
    obtain ⟨am, r51, rfl, h51⟩ := bI h49
    obtain ⟨rfl, h52⟩ := nilK_inv h51
    obtain ⟨rfl, h53⟩ := bNilK_inv h52
    have h := h53
    refine ⟨_, _, rfl, rfl, ?_⟩
    rw [← J24_6_eq t6 aa ab ac ad ae af x1 ag ah ai aj ak al am K]
    exact h)
theorem J24_5_eq (t6 : List PV) (aa : Nat) (ab : Bool) (ac : Bool) (ad : Int) (ae : Int) (af : Int) (x1 : List PV) (ag : Int) (ah : Int) (ai : Int) (aj : Int) (ak : List PV) (al : Bool) (am : Bool) (K : Ex → List PV → List Blk → Prop) : J24_5 t6 aa ab ac ad ae af x1 ag ah ai aj ak al am (fun z1 z2 z3 z4 z5 z6 z7 z8 z9 z10 z11 => K .ret (skU 4 ((.ptr 2 55 0 []) :: (.int .i64 0) :: skU 90 [])) [(.box true 64 (.agg [(.sl 1 111 0 z1), (.bool z2), (.bool z3), (.int .i64 z4), (.int .i64 z5), (.int .i64 z6)])), (.row true 111 z7), (.box true 55 (.agg [(.int .u64 z8), (.int .i64 z9), (.int .i64 z10), (.int .u32 z11)]))]) = evC C24 (codeOf Try.f24 [1, 1, 1, 1]) (mkSt ((.ptr 0 64 0 []) :: skU 3 ((.ptr 2 55 0 []) :: skU 1 ((.list 5 t6) :: (.ptr 3 132 0 []) :: skU 88 []))) [(.box true 64 (.agg [(.sl 1 111 0 aa), (.bool ab), (.bool ac), (.int .i64 ad), (.int .i64 ae), (.int .i64 af)])), (.row true 111 x1), (.box true 55 (.agg [(.int .u64 ag), (.int .i64 ah), (.int .i64 ai), (.int .u32 aj)])), (.box true 132 (.agg [(.list 5 ak), (.bool al), (.bool am)]))]) (onSt K) := by kernel_rfl
theorem Q24_5_ok : RestOk C24 (codeOf Try.f24 [1, 1, 1, 1]) := RestOk.to (l := Q24_5) (by kernel_rfl) (by
    intro t bs K h0
    unfold Q24_5 at h0
    obtain ⟨r2, rfl, h2⟩ := pI h0
    obtain ⟨r3, rfl, h3⟩ := skipU_inv h2
    obtain ⟨r5, rfl, h5⟩ := pI h3
    obtain ⟨r6, rfl, h6⟩ := skipU_inv h5
    obtain ⟨t6, r8, rfl, h8⟩ := lI h6
    obtain ⟨r10, rfl, h10⟩ := pI h8
    obtain ⟨r11, rfl, h11⟩ := skipU_inv h10
    obtain ⟨rfl, h12⟩ := nilK_inv h11
    obtain ⟨r15, r13, rfl, h15⟩ := bA h12
    obtain ⟨aa, r17, rfl, h17⟩ := zI h15
    obtain ⟨ab, r19, rfl, h19⟩ := bI h17
    obtain ⟨ac, r21, rfl, h21⟩ := bI h19
    obtain ⟨ad, r23, rfl, h23⟩ := iI h21
    obtain ⟨ae, r25, rfl, h25⟩ := iI h23
    obtain ⟨af, r27, rfl, h27⟩ := iI h25
    obtain ⟨rfl, h28⟩ := nilK_inv h27
    obtain ⟨x1, r29, rfl, h30⟩ := bR h28
    obtain ⟨r33, r31, rfl, h33⟩ := bA h30
    obtain ⟨ag, r35, rfl, h35⟩ := iI h33
    obtain ⟨ah, r37, rfl, h37⟩ := iI h35
    obtain ⟨ai, r39, rfl, h39⟩ := iI h37
    obtain ⟨aj, r41, rfl, h41⟩ := iI h39
    obtain ⟨rfl, h42⟩ := nilK_inv h41
    obtain ⟨r45, r43, rfl, h45⟩ := bA h42
    obtain ⟨ak, r47, rfl, h47⟩ := lI h45
    obtain ⟨al, r49, rfl, h49⟩ := bI h47
    obtain ⟨am, r51, rfl, h51⟩ := bI h49
    obtain ⟨rfl, h52⟩ := nilK_inv h51
    obtain ⟨rfl, h53⟩ := bNilK_inv h52
    have h := h53
    refine ⟨_, _, rfl, rfl, ?_⟩
    rw [← J24_5_eq t6 aa ab ac ad ae af x1 ag ah ai aj ak al am K]
    exact h)
theorem J24_4_eq (t5 : Int) (t6 : List PV) (aa : Nat) (ab : Bool) (ac : Bool) (ad : Int) (ae : Int) (af : Int) (x1 : List PV) (ag : Int) (ah : Int) (ai : Int) (aj : Int) (K : Ex → List PV → List Blk → Prop) : J24_4 t5 t6 aa ab ac ad ae af x1 ag ah ai aj (fun z1 z2 z3 z4 z5 z6 z7 z8 z9 z10 z11 => K .ret (skU 4 ((.ptr 2 55 0 []) :: (.int .i64 0) :: skU 90 [])) [(.box true 64 (.agg [(.sl 1 111 0 z1), (.bool z2), (.bool z3), (.int .i64 z4), (.int .i64 z5), (.int .i64 z6)])), (.row true 111 z7), (.box true 55 (.agg [(.int .u64 z8), (.int .i64 z9), (.int .i64 z10), (.int .u32 z11)]))]) = evC C24 (codeOf Try.f24 [1, 1, 1]) (mkSt ((.ptr 0 64 0 []) :: skU 3 ((.ptr 2 55 0 []) :: (.int .i64 t5) :: (.list 5 t6) :: skU 89 [])) [(.box true 64 (.agg [(.sl 1 111 0 aa), (.bool ab), (.bool ac), (.int .i64 ad), (.int .i64 ae), (.int .i64 af)])), (.row true 111 x1), (.box true 55 (.agg [(.int .u64 ag), (.int .i64 ah), (.int .i64 ai), (.int .u32 aj)]))]) (onSt K) := by kernel_rfl
theorem Q24_4_ok : RestOk C24 (codeOf Try.f24 [1, 1, 1]) := RestOk.to (l := Q24_4) (by kernel_rfl) (by
    intro t bs K h0
    unfold Q24_4 at h0
    obtain ⟨r2, rfl, h2⟩ := pI h0
    obtain ⟨r3, rfl, h3⟩ := skipU_inv h2
    obtain ⟨r5, rfl, h5⟩ := pI h3
    obtain ⟨t5, r7, rfl, h7⟩ := iI h5
    obtain ⟨t6, r9, rfl, h9⟩ := lI h7
    obtain ⟨r10, rfl, h10⟩ := skipU_inv h9
    obtain ⟨rfl, h11⟩ := nilK_inv h10
    obtain ⟨r14, r12, rfl, h14⟩ := bA h11
    obtain ⟨aa, r16, rfl, h16⟩ := zI h14
    obtain ⟨ab, r18, rfl, h18⟩ := bI h16
    obtain ⟨ac, r20, rfl, h20⟩ := bI h18
    obtain ⟨ad, r22, rfl, h22⟩ := iI h20
    obtain ⟨ae, r24, rfl, h24⟩ := iI h22
    obtain ⟨af, r26, rfl, h26⟩ := iI h24
    obtain ⟨rfl, h27⟩ := nilK_inv h26
    obtain ⟨x1, r28, rfl, h29⟩ := bR h27
    obtain ⟨r32, r30, rfl, h32⟩ := bA h29
    obtain ⟨ag, r34, rfl, h34⟩ := iI h32
    obtain ⟨ah, r36, rfl, h36⟩ := iI h34
    obtain ⟨ai, r38, rfl, h38⟩ := iI h36
    obtain ⟨aj, r40, rfl, h40⟩ := iI h38
    obtain ⟨rfl, h41⟩ := nilK_inv h40
    obtain ⟨rfl, h42⟩ := bNilK_inv h41
    have h := h42
    refine ⟨_, _, rfl, rfl, ?_⟩
    rw [← J24_4_eq t5 t6 aa ab ac ad ae af x1 ag ah ai aj K]
    exact h)
theorem J24_2_eq (t5 : Int) (t6 : List PV) (aa : Nat) (ab : Bool) (ac : Bool) (ad : Int) (ae : Int) (af : Int) (x1 : List PV) (ag : Int) (ah : Int) (ai : Int) (aj : Int) (K : Ex → List PV → List Blk → Prop) : J24_2 t5 t6 aa ab ac ad ae af x1 ag ah ai aj (fun z0 z1 z2 z3 z4 z5 z6 z7 z8 z9 z10 z11 => K .ret (skU 4 ((.ptr 2 55 0 []) :: (.int .i64 z0) :: skU 90 [])) [(.box true 64 (.agg [(.sl 1 111 0 z1), (.bool z2), (.bool z3), (.int .i64 z4), (.int .i64 z5), (.int .i64 z6)])), (.row true 111 z7), (.box true 55 (.agg [(.int .u64 z8), (.int .i64 z9), (.int .i64 z10), (.int .u32 z11)]))]) = evC C24 (codeOf Try.f24 [1, 1]) (mkSt ((.ptr 0 64 0 []) :: skU 3 ((.ptr 2 55 0 []) :: (.int .i64 t5) :: (.list 5 t6) :: skU 89 [])) [(.box true 64 (.agg [(.sl 1 111 0 aa), (.bool ab), (.bool ac), (.int .i64 ad), (.int .i64 ae), (.int .i64 af)])), (.row true 111 x1), (.box true 55 (.agg [(.int .u64 ag), (.int .i64 ah), (.int .i64 ai), (.int .u32 aj)]))]) (onSt K) := by kernel_rfl
theorem Q24_2_ok : RestOk C24 (codeOf Try.f24 [1, 1]) := RestOk.to (l := Q24_2) (by kernel_rfl) (by
    intro t bs K h0
    unfold Q24_2 at h0
    obtain ⟨r2, rfl, h2⟩ := pI h0
    obtain ⟨r3, rfl, h3⟩ := skipU_inv h2
    obtain ⟨r5, rfl, h5⟩ := pI h3
    obtain ⟨t5, r7, rfl, h7⟩ := iI h5
    obtain ⟨t6, r9, rfl, h9⟩ := lI h7
    obtain ⟨r10, rfl, h10⟩ := skipU_inv h9
    obtain ⟨rfl, h11⟩ := nilK_inv h10
    obtain ⟨r14, r12, rfl, h14⟩ := bA h11
    obtain ⟨aa, r16, rfl, h16⟩ := zI h14
    obtain ⟨ab, r18, rfl, h18⟩ := bI h16
    obtain ⟨ac, r20, rfl, h20⟩ := bI h18
    obtain ⟨ad, r22, rfl, h22⟩ := iI h20
    obtain ⟨ae, r24, rfl, h24⟩ := iI h22
    obtain ⟨af, r26, rfl, h26⟩ := iI h24
    obtain ⟨rfl, h27⟩ := nilK_inv h26
    obtain ⟨x1, r28, rfl, h29⟩ := bR h27
    obtain ⟨r32, r30, rfl, h32⟩ := bA h29
    obtain ⟨ag, r34, rfl, h34⟩ := iI h32
    obtain ⟨ah, r36, rfl, h36⟩ := iI h34
    obtain ⟨ai, r38, rfl, h38⟩ := iI h36
    obtain ⟨aj, r40, rfl, h40⟩ := iI h38
    obtain ⟨rfl, h41⟩ := nilK_inv h40
    obtain ⟨rfl, h42⟩ := bNilK_inv h41
    have h := h42
    refine ⟨_, _, rfl, rfl, ?_⟩
    rw [← J24_2_eq t5 t6 aa ab ac ad ae af x1 ag ah ai aj K]
    exact h)
theorem J24_1_eq (t1 : Int) (aa : Nat) (ab : Bool) (ac : Bool) (ad : Int) (ae : Int) (af : Int) (x1 : List PV) (ag : Int) (ah : Int) (ai : Int) (aj : Int) (K : Ex → List PV → List Blk → Prop) : J24_1 t1 aa ab ac ad ae af x1 ag ah ai aj (fun z0 z1 z2 z3 z4 z5 z6 z7 z8 z9 z10 z11 => K .ret (skU 4 ((.ptr 2 55 0 []) :: (.int .i64 z0) :: skU 90 [])) [(.box true 64 (.agg [(.sl 1 111 0 z1), (.bool z2), (.bool z3), (.int .i64 z4), (.int .i64 z5), (.int .i64 z6)])), (.row true 111 z7), (.box true 55 (.agg [(.int .u64 z8), (.int .i64 z9), (.int .i64 z10), (.int .u32 z11)]))]) = evC C24 (codeOf Try.f24 [1]) (mkSt ((.ptr 0 64 0 []) :: (.int .i64 t1) :: skU 2 ((.ptr 2 55 0 []) :: skU 91 [])) [(.box true 64 (.agg [(.sl 1 111 0 aa), (.bool ab), (.bool ac), (.int .i64 ad), (.int .i64 ae), (.int .i64 af)])), (.row true 111 x1), (.box true 55 (.agg [(.int .u64 ag), (.int .i64 ah), (.int .i64 ai), (.int .u32 aj)]))]) (onSt K) := by kernel_rfl
theorem Q24_1_ok : RestOk C24 (codeOf Try.f24 [1]) := RestOk.to (l := Q24_1) (by kernel_rfl) (by
    intro t bs K h0
    unfold Q24_1 at h0
    obtain ⟨r2, rfl, h2⟩ := pI h0
    obtain ⟨t1, r4, rfl, h4⟩ := iI h2
    obtain ⟨r5, rfl, h5⟩ := skipU_inv h4
    obtain ⟨r7, rfl, h7⟩ := pI h5
    obtain ⟨r8, rfl, h8⟩ := skipU_inv h7
    obtain ⟨rfl, h9⟩ := nilK_inv h8
    obtain ⟨r12, r10, rfl, h12⟩ := bA h9
    obtain ⟨aa, r14, rfl, h14⟩ := zI h12
    obtain ⟨ab, r16, rfl, h16⟩ := bI h14
    obtain ⟨ac, r18, rfl, h18⟩ := bI h16
    obtain ⟨ad, r20, rfl, h20⟩ := iI h18
    obtain ⟨ae, r22, rfl, h22⟩ := iI h20
    obtain ⟨af, r24, rfl, h24⟩ := iI h22
    obtain ⟨rfl, h25⟩ := nilK_inv h24
    obtain ⟨x1, r26, rfl, h27⟩ := bR h25
    obtain ⟨r30, r28, rfl, h30⟩ := bA h27
    obtain ⟨ag, r32, rfl, h32⟩ := iI h30
    obtain ⟨ah, r34, rfl, h34⟩ := iI h32
    obtain ⟨ai, r36, rfl, h36⟩ := iI h34
    obtain ⟨aj, r38, rfl, h38⟩ := iI h36
    obtain ⟨rfl, h39⟩ := nilK_inv h38
    obtain ⟨rfl, h40⟩ := bNilK_inv h39
    have h := h40
    refine ⟨_, _, rfl, rfl, ?_⟩
    rw [← J24_1_eq t1 aa ab ac ad ae af x1 ag ah ai aj K]
    exact h)
theorem B24_eq (uat : Int) (dn : Nat) (off : Bool) (cut : Bool) (whole : Int) (kept : Int) (writes : Int) (secs : List PV) (K : List Blk → List PV → Prop) : evF C24 Try.f24 [(.box true 64 (.agg [(.sl 1 111 0 dn), (.bool off), (.bool cut), (.int .i64 whole), (.int .i64 kept), (.int .i64 writes)])), (.row true 111 secs)] [(.ptr 0 64 0 []), (.int .i64 uat)] K = (([(.box true 64 (.agg [(.sl 1 111 0 dn), (.bool off), (.bool cut), (.int .i64 whole), (.int .i64 kept), (.int .i64 writes)])), (.row true 111 secs)] : List Blk).length = 2 ∧ B24 uat dn off cut whole kept writes secs (fun z0 z1 z2 z3 z4 z5 z6 z7 z8 z9 z10 z11 => K [(.box true 64 (.agg [(.sl 1 111 0 z5), (.bool z6), (.bool z7), (.int .i64 z8), (.int .i64 z9), (.int .i64 z10)])), (.row true 111 z11)] [(.agg [(.int .u64 z0), (.int .i64 z1), (.int .i64 z2), (.int .u32 z3)]), (.int .i64 z4)])) := by kernel_rfl
theorem W24_of (hT : AllSound Try.prog pvT pvG T24) : Sound Try.prog pvT pvG 24 W24 := Sound.weak (evF_sound (C := C24) (Base.of pvT_fits pvT_sized pvT_eq hT pvMixed pvIt_ok) Try.func24 (LoopsOk.of (C := C24) (fn := Try.f24) (l := []) (r := [codeOf Try.f24 [1], codeOf Try.f24 [1, 1], codeOf Try.f24 [1, 1, 1], codeOf Try.f24 [1, 1, 0, 1], codeOf Try.f24 [1, 1, 0, 1, 0, 1], codeOf Try.f24 [1, 1, 1, 1], codeOf Try.f24 [1, 1, 1, 1, 1], codeOf Try.f24 [1, 1, 1, 1, 1, 1], codeOf Try.f24 [1, 1, 1, 1, 1, 1, 1], codeOf Try.f24 [1, 1, 1, 1, 1, 1, 1, 1], codeOf Try.f24 [1, 1, 1, 1, 1, 1, 1, 1, 1], codeOf Try.f24 [1, 1, 1, 1, 1, 1, 1, 1, 1, 1], codeOf Try.f24 [1, 1, 1, 1, 1, 1, 1, 1, 1, 0, 1], codeOf Try.f24 [1, 1, 1, 1, 1, 1, 1, 1, 1, 0, 1, 0, 1], codeOf Try.f24 [1, 1, 1, 1, 1, 1, 1, 1, 1, 1, 1], codeOf Try.f24 [1, 1, 1, 1, 1, 1, 1, 1, 1, 1, 1, 1], codeOf Try.f24 [1, 1, 1, 1, 1, 1, 1, 1, 1, 1, 1, 0, 1], codeOf Try.f24 [1, 1, 1, 1, 1, 1, 1, 1, 1, 1, 1, 0, 1, 0, 1], codeOf Try.f24 [1, 1, 1, 1, 1, 1, 1, 1, 1, 1, 1, 1, 1]]) (g := []) (by kernel_rfl) (by kernel_rfl) (by kernel_rfl) trivial ⟨Q24_1_ok, ⟨Q24_2_ok, ⟨Q24_4_ok, ⟨(RestOk.none (by kernel_rfl)), ⟨(RestOk.none (by kernel_rfl)), ⟨Q24_5_ok, ⟨Q24_6_ok, ⟨Q24_7_ok, ⟨Q24_8_ok, ⟨Q24_9_ok, ⟨Q24_10_ok, ⟨Q24_12_ok, ⟨(RestOk.none (by kernel_rfl)), ⟨(RestOk.none (by kernel_rfl)), ⟨Q24_13_ok, ⟨Q24_15_ok, ⟨(RestOk.none (by kernel_rfl)), ⟨(RestOk.none (by kernel_rfl)), ⟨(RestOk.none (by kernel_rfl)), trivial⟩⟩⟩⟩⟩⟩⟩⟩⟩⟩⟩⟩⟩⟩⟩⟩⟩⟩⟩ trivial) (evF_to (C := C24) (fun bs t K h0 => by
    unfold P24 at h0
    obtain ⟨r2, rfl, h2⟩ := pI h0
    obtain ⟨uat, r4, rfl, h4⟩ := iI h2
    obtain ⟨rfl, h5⟩ := nilK_inv h4
    obtain ⟨r8, r6, rfl, h8⟩ := bA h5
    obtain ⟨dn, r10, rfl, h10⟩ := zI h8
    obtain ⟨off, r12, rfl, h12⟩ := bI h10
    obtain ⟨cut, r14, rfl, h14⟩ := bI h12
    obtain ⟨whole, r16, rfl, h16⟩ := iI h14
    obtain ⟨kept, r18, rfl, h18⟩ := iI h16
    obtain ⟨writes, r20, rfl, h20⟩ := iI h18
    obtain ⟨rfl, h21⟩ := nilK_inv h20
    obtain ⟨secs, r22, rfl, h23⟩ := bR h21
    obtain ⟨rfl, h24⟩ := bNilK_inv h23
    have h := h24
    refine ⟨_, _, rfl, rfl, ?_⟩
    rw [B24_eq uat dn off cut whole kept writes secs K]
    exact ⟨rfl, h⟩))) _
end Pv

namespace Pv
open Go Go.Proofs

theorem J28_9_eq (t5 : Int) (t6 : Int) (t8 : ByteArray) (t9 : Int) (t10 : List PV) (aa : List PV) (ab : Bool) (ac : Bool) (x1 : List PV) (K : Ex → List PV → List Blk → Prop) : J28_9 t5 t6 t8 t9 t10 aa ab ac x1 (K (.exit 0) (skU 4 ((.ptr 0 132 0 []) :: (.int .u64 t5) :: (.int .i64 t6) :: (.mapr 1) :: (.str t8) :: (.int .u64 t9) :: (.list 5 t10) :: skU 59 [])) [(.box true 132 (.agg [(.list 5 aa), (.bool ab), (.bool ac)])), (.map true 9 77 x1)]) (K .normal (skU 4 ((.ptr 0 132 0 []) :: (.int .u64 t5) :: (.int .i64 t6) :: (.mapr 1) :: (.str t8) :: (.int .u64 t9) :: (.list 5 t10) :: skU 59 [])) [(.box true 132 (.agg [(.list 5 aa), (.bool ab), (.bool ac)])), (.map true 9 77 x1)]) = evC C28 (codeOf Try.f28 [1, 1, 1, 1, 0, 1, 0, 0, 1, 0, 0, 1, 0, 1]) (mkSt (skU 4 ((.ptr 0 132 0 []) :: (.int .u64 t5) :: (.int .i64 t6) :: (.mapr 1) :: (.str t8) :: (.int .u64 t9) :: (.list 5 t10) :: skU 59 [])) [(.box true 132 (.agg [(.list 5 aa), (.bool ab), (.bool ac)])), (.map true 9 77 x1)]) (onSt K) := by kernel_rfl
theorem Q28_9_ok : RestOk C28 (codeOf Try.f28 [1, 1, 1, 1, 0, 1, 0, 0, 1, 0, 0, 1, 0, 1]) := RestOk.to (l := Q28_9) (by kernel_rfl) (by
    intro t bs K h0
    unfold Q28_9 at h0
    obtain ⟨r1, rfl, h1⟩ := skipU_inv h0
    obtain ⟨r3, rfl, h3⟩ := pI h1
    obtain ⟨t5, r5, rfl, h5⟩ := iI h3
    obtain ⟨t6, r7, rfl, h7⟩ := iI h5
    obtain ⟨r9, rfl, h9⟩ := mI h7
    obtain ⟨t8, r11, rfl, h11⟩ := sI h9
    obtain ⟨t9, r13, rfl, h13⟩ := iI h11
    obtain ⟨t10, r15, rfl, h15⟩ := lI h13
    obtain ⟨r16, rfl, h16⟩ := skipU_inv h15
    obtain ⟨rfl, h17⟩ := nilK_inv h16
    obtain ⟨r20, r18, rfl, h20⟩ := bA h17
    obtain ⟨aa, r22, rfl, h22⟩ := lI h20
    obtain ⟨ab, r24, rfl, h24⟩ := bI h22
    obtain ⟨ac, r26, rfl, h26⟩ := bI h24
    obtain ⟨rfl, h27⟩ := nilK_inv h26
    obtain ⟨x1, r28, rfl, h29⟩ := bM h27
    obtain ⟨rfl, h30⟩ := bNilK_inv h29
    have h := h30
    refine ⟨_, _, rfl, rfl, ?_⟩
    rw [← J28_9_eq t5 t6 t8 t9 t10 aa ab ac x1 K]
    exact h)
theorem J28_11_eq (t5 : Int) (t6 : Int) (t8 : ByteArray) (t9 : Int) (t10 : List PV) (t11 : List PV) (aa : List PV) (ab : Bool) (ac : Bool) (x1 : List PV) (K : Ex → List PV → List Blk → Prop) : J28_11 t5 t6 t8 t9 t10 t11 aa ab ac x1 (K (.exit 0) (skU 4 ((.ptr 0 132 0 []) :: (.int .u64 t5) :: (.int .i64 t6) :: (.mapr 1) :: (.str t8) :: (.int .u64 t9) :: (.list 5 t10) :: (.list 5 t11) :: skU 58 [])) [(.box true 132 (.agg [(.list 5 aa), (.bool ab), (.bool ac)])), (.map true 9 77 x1)]) (K .normal (skU 4 ((.ptr 0 132 0 []) :: (.int .u64 t5) :: (.int .i64 t6) :: (.mapr 1) :: (.str t8) :: (.int .u64 t9) :: (.list 5 t10) :: (.list 5 t11) :: skU 58 [])) [(.box true 132 (.agg [(.list 5 aa), (.bool ab), (.bool ac)])), (.map true 9 77 x1)]) = evC C28 (codeOf Try.f28 [1, 1, 1, 1, 0, 1, 0, 0, 1, 0, 0, 1, 1, 0, 1]) (mkSt (skU 4 ((.ptr 0 132 0 []) :: (.int .u64 t5) :: (.int .i64 t6) :: (.mapr 1) :: (.str t8) :: (.int .u64 t9) :: (.list 5 t10) :: (.list 5 t11) :: skU 58 [])) [(.box true 132 (.agg [(.list 5 aa), (.bool ab), (.bool ac)])), (.map true 9 77 x1)]) (onSt K) := by kernel_rfl
theorem Q28_11_ok : RestOk C28 (codeOf Try.f28 [1, 1, 1, 1, 0, 1, 0, 0, 1, 0, 0, 1, 1, 0, 1]) := RestOk.to (l := Q28_11) (by kernel_rfl) (by
    intro t bs K h0
    unfold Q28_11 at h0
    obtain ⟨r1, rfl, h1⟩ := skipU_inv h0
    obtain ⟨r3, rfl, h3⟩ := pI h1
    obtain ⟨t5, r5, rfl, h5⟩ := iI h3
    obtain ⟨t6, r7, rfl, h7⟩ := iI h5
    obtain ⟨r9, rfl, h9⟩ := mI h7
    obtain ⟨t8, r11, rfl, h11⟩ := sI h9
    obtain ⟨t9, r13, rfl, h13⟩ := iI h11
    obtain ⟨t10, r15, rfl, h15⟩ := lI h13
    obtain ⟨t11, r17, rfl, h17⟩ := lI h15
    obtain ⟨r18, rfl, h18⟩ := skipU_inv h17
    obtain ⟨rfl, h19⟩ := nilK_inv h18
    obtain ⟨r22, r20, rfl, h22⟩ := bA h19
    obtain ⟨aa, r24, rfl, h24⟩ := lI h22
    obtain ⟨ab, r26, rfl, h26⟩ := bI h24
    obtain ⟨ac, r28, rfl, h28⟩ := bI h26
    obtain ⟨rfl, h29⟩ := nilK_inv h28
    obtain ⟨x1, r30, rfl, h31⟩ := bM h29
    obtain ⟨rfl, h32⟩ := bNilK_inv h31
    have h := h32
    refine ⟨_, _, rfl, rfl, ?_⟩
    rw [← J28_11_eq t5 t6 t8 t9 t10 t11 aa ab ac x1 K]
    exact h)
theorem J28_14_eq (t5 : Int) (t6 : Int) (t9 : Int) (t10 : List PV) (t11 : List PV) (aa : List PV) (ab : Bool) (ac : Bool) (x1 : List PV) (K : Ex → List PV → List Blk → Prop) : J28_14 t5 t6 t9 t10 t11 aa ab ac x1 (fun z2 z7 => K .normal (skU 4 ((.ptr 0 132 0 []) :: (.int .u64 t5) :: (.int .i64 t6) :: (.mapr 1) :: (.str z2) :: (.int .u64 t9) :: skU 60 [])) [(.box true 132 (.agg [(.list 5 aa), (.bool ab), (.bool ac)])), (.map true 9 77 z7)]) = evC C28 (codeOf Try.f28 [1, 1, 1, 1, 0, 1, 0, 0, 1, 0, 0, 1, 1, 1, 1]) (mkSt (skU 4 ((.ptr 0 132 0 []) :: (.int .u64 t5) :: (.int .i64 t6) :: (.mapr 1) :: skU 1 ((.int .u64 t9) :: (.list 5 t10) :: (.list 5 t11) :: skU 58 []))) [(.box true 132 (.agg [(.list 5 aa), (.bool ab), (.bool ac)])), (.map true 9 77 x1)]) (onSt K) := by kernel_rfl
theorem Q28_14_ok : RestOk C28 (codeOf Try.f28 [1, 1, 1, 1, 0, 1, 0, 0, 1, 0, 0, 1, 1, 1, 1]) := RestOk.to (l := Q28_14) (by kernel_rfl) (by
    intro t bs K h0
    unfold Q28_14 at h0
    obtain ⟨r1, rfl, h1⟩ := skipU_inv h0
    obtain ⟨r3, rfl, h3⟩ := pI h1
    obtain ⟨t5, r5, rfl, h5⟩ := iI h3
    obtain ⟨t6, r7, rfl, h7⟩ := iI h5
    obtain ⟨r9, rfl, h9⟩ := mI h7
    obtain ⟨r10, rfl, h10⟩ := skipU_inv h9
    obtain ⟨t9, r12, rfl, h12⟩ := iI h10
    obtain ⟨t10, r14, rfl, h14⟩ := lI h12
    obtain ⟨t11, r16, rfl, h16⟩ := lI h14
    obtain ⟨r17, rfl, h17⟩ := skipU_inv h16
    obtain ⟨rfl, h18⟩ := nilK_inv h17
    obtain ⟨r21, r19, rfl, h21⟩ := bA h18
    obtain ⟨aa, r23, rfl, h23⟩ := lI h21
    obtain ⟨ab, r25, rfl, h25⟩ := bI h23
    obtain ⟨ac, r27, rfl, h27⟩ := bI h25
    obtain ⟨rfl, h28⟩ := nilK_inv h27
    obtain ⟨x1, r29, rfl, h30⟩ := bM h28
    obtain ⟨rfl, h31⟩ := bNilK_inv h30
    have h := h31
    refine ⟨_, _, rfl, rfl, ?_⟩
    rw [← J28_14_eq t5 t6 t9 t10 t11 aa ab ac x1 K]
    exact h)
theorem J28_12_eq (t5 : Int) (t6 : Int) (t8 : ByteArray) (t9 : Int) (t10 : List PV) (t11 : List PV) (aa : List PV) (ab : Bool) (ac : Bool) (x1 : List PV) (K : Ex → List PV → List Blk → Prop) : J28_12 t5 t6 t8 t9 t10 t11 aa ab ac x1 (K .ret (skU 2 (.nilm :: (.int .i64 4) :: skU 66 [])) []) (fun z2 z7 => K .normal (skU 4 ((.ptr 0 132 0 []) :: (.int .u64 t5) :: (.int .i64 t6) :: (.mapr 1) :: (.str z2) :: (.int .u64 t9) :: skU 60 [])) [(.box true 132 (.agg [(.list 5 aa), (.bool ab), (.bool ac)])), (.map true 9 77 z7)]) = evC C28 (codeOf Try.f28 [1, 1, 1, 1, 0, 1, 0, 0, 1, 0, 0, 1, 1, 1]) (mkSt (skU 4 ((.ptr 0 132 0 []) :: (.int .u64 t5) :: (.int .i64 t6) :: (.mapr 1) :: (.str t8) :: (.int .u64 t9) :: (.list 5 t10) :: (.list 5 t11) :: skU 58 [])) [(.box true 132 (.agg [(.list 5 aa), (.bool ab), (.bool ac)])), (.map true 9 77 x1)]) (onSt K) := by kernel_rfl
theorem Q28_12_ok : RestOk C28 (codeOf Try.f28 [1, 1, 1, 1, 0, 1, 0, 0, 1, 0, 0, 1, 1, 1]) := RestOk.to (l := Q28_12) (by kernel_rfl) (by
    intro t bs K h0
    unfold Q28_12 at h0
    obtain ⟨r1, rfl, h1⟩ := skipU_inv h0
    obtain ⟨r3, rfl, h3⟩ := pI h1
    obtain ⟨t5, r5, rfl, h5⟩ := iI h3
    obtain ⟨t6, r7, rfl, h7⟩ := iI h5
    obtain ⟨r9, rfl, h9⟩ := mI h7
    obtain ⟨t8, r11, rfl, h11⟩ := sI h9
    obtain ⟨t9, r13, rfl, h13⟩ := iI h11
    obtain ⟨t10, r15, rfl, h15⟩ := lI h13
    obtain ⟨t11, r17, rfl, h17⟩ := lI h15
    obtain ⟨r18, rfl, h18⟩ := skipU_inv h17
    obtain ⟨rfl, h19⟩ := nilK_inv h18
    obtain ⟨r22, r20, rfl, h22⟩ := bA h19
    obtain ⟨aa, r24, rfl, h24⟩ := lI h22
    obtain ⟨ab, r26, rfl, h26⟩ := bI h24
    obtain ⟨ac, r28, rfl, h28⟩ := bI h26
    obtain ⟨rfl, h29⟩ := nilK_inv h28
    obtain ⟨x1, r30, rfl, h31⟩ := bM h29
    obtain ⟨rfl, h32⟩ := bNilK_inv h31
    have h := h32
    refine ⟨_, _, rfl, rfl, ?_⟩
    rw [← J28_12_eq t5 t6 t8 t9 t10 t11 aa ab ac x1 K]
    exact h)
theorem J28_10_eq (t5 : Int) (t6 : Int) (t8 : ByteArray) (t9 : Int) (t10 : List PV) (aa : List PV) (ab : Bool) (ac : Bool) (x1 : List PV) (K : Ex → List PV → List Blk → Prop) : J28_10 t5 t6 t8 t9 t10 aa ab ac x1 (fun z1 z5 z6 z7 z8 => K (.exit 0) (skU 4 ((.ptr 0 132 0 []) :: (.int .u64 t5) :: (.int .i64 z1) :: (.mapr 1) :: (.str t8) :: (.int .u64 t9) :: (.list 5 t10) :: (.list 5 z5) :: skU 58 [])) [(.box true 132 (.agg [(.list 5 z6), (.bool z7), (.bool z8)])), (.map true 9 77 x1)]) (K .ret (skU 2 (.nilm :: (.int .i64 4) :: skU 66 [])) []) (fun z1 z2 z4 z5 z6 z7 => K .normal (skU 4 ((.ptr 0 132 0 []) :: (.int .u64 t5) :: (.int .i64 z1) :: (.mapr 1) :: (.str z2) :: (.int .u64 t9) :: skU 60 [])) [(.box true 132 (.agg [(.list 5 z4), (.bool z5), (.bool z6)])), (.map true 9 77 z7)]) = evC C28 (codeOf Try.f28 [1, 1, 1, 1, 0, 1, 0, 0, 1, 0, 0, 1, 1]) (mkSt (skU 4 ((.ptr 0 132 0 []) :: (.int .u64 t5) :: (.int .i64 t6) :: (.mapr 1) :: (.str t8) :: (.int .u64 t9) :: (.list 5 t10) :: skU 59 [])) [(.box true 132 (.agg [(.list 5 aa), (.bool ab), (.bool ac)])), (.map true 9 77 x1)]) (onSt K) := by kernel_rfl
theorem Q28_10_ok : RestOk C28 (codeOf Try.f28 [1, 1, 1, 1, 0, 1, 0, 0, 1, 0, 0, 1, 1]) := RestOk.to (l := Q28_10) (by kernel_rfl) (by
    intro t bs K h0
    unfold Q28_10 at h0
    obtain ⟨r1, rfl, h1⟩ := skipU_inv h0
    obtain ⟨r3, rfl, h3⟩ := pI h1
    obtain ⟨t5, r5, rfl, h5⟩ := iI h3
    obtain ⟨t6, r7, rfl, h7⟩ := iI h5
    obtain ⟨r9, rfl, h9⟩ := mI h7
    obtain ⟨t8, r11, rfl, h11⟩ := sI h9
    obtain ⟨t9, r13, rfl, h13⟩ := iI h11
    obtain ⟨t10, r15, rfl, h15⟩ := lI h13
    obtain ⟨r16, rfl, h16⟩ := skipU_inv h15
    obtain ⟨rfl, h17⟩ := nilK_inv h16
    obtain ⟨r20, r18, rfl, h20⟩ := bA h17
    obtain ⟨aa, r22, rfl, h22⟩ := lI h20
    obtain ⟨ab, r24, rfl, h24⟩ := bI h22
    obtain ⟨ac, r26, rfl, h26⟩ := bI h24
    obtain ⟨rfl, h27⟩ := nilK_inv h26
    obtain ⟨x1, r28, rfl, h29⟩ := bM h27
    obtain ⟨rfl, h30⟩ := bNilK_inv h29
    have h := h30
    refine ⟨_, _, rfl, rfl, ?_⟩
    rw [← J28_10_eq t5 t6 t8 t9 t10 aa ab ac x1 K]
    exact h)
theorem J28_8_eq (t5 : Int) (t8 : ByteArray) (t9 : Int) (aa : List PV) (ab : Bool) (ac : Bool) (x1 : List PV) (K : Ex → List PV → List Blk → Prop) : J28_8 t5 t8 t9 aa ab ac x1 (fun z1 z4 z5 z6 z7 => K (.exit 0) (skU 4 ((.ptr 0 132 0 []) :: (.int .u64 t5) :: (.int .i64 z1) :: (.mapr 1) :: (.str t8) :: (.int .u64 t9) :: (.list 5 z4) :: skU 59 [])) [(.box true 132 (.agg [(.list 5 z5), (.bool z6), (.bool z7)])), (.map true 9 77 x1)]) (fun z1 z4 z5 z6 z7 z8 => K (.exit 0) (skU 4 ((.ptr 0 132 0 []) :: (.int .u64 t5) :: (.int .i64 z1) :: (.mapr 1) :: (.str t8) :: (.int .u64 t9) :: (.list 5 z4) :: (.list 5 z5) :: skU 58 [])) [(.box true 132 (.agg [(.list 5 z6), (.bool z7), (.bool z8)])), (.map true 9 77 x1)]) (K .ret (skU 2 (.nilm :: (.int .i64 4) :: skU 66 [])) []) (fun z1 z2 z4 z5 z6 z7 => K .normal (skU 4 ((.ptr 0 132 0 []) :: (.int .u64 t5) :: (.int .i64 z1) :: (.mapr 1) :: (.str z2) :: (.int .u64 t9) :: skU 60 [])) [(.box true 132 (.agg [(.list 5 z4), (.bool z5), (.bool z6)])), (.map true 9 77 z7)]) = evC C28 (codeOf Try.f28 [1, 1, 1, 1, 0, 1, 0, 0, 1, 0, 0, 1]) (mkSt (skU 4 ((.ptr 0 132 0 []) :: (.int .u64 t5) :: skU 1 ((.mapr 1) :: (.str t8) :: (.int .u64 t9) :: skU 60 []))) [(.box true 132 (.agg [(.list 5 aa), (.bool ab), (.bool ac)])), (.map true 9 77 x1)]) (onSt K) := by kernel_rfl
theorem Q28_8_ok : RestOk C28 (codeOf Try.f28 [1, 1, 1, 1, 0, 1, 0, 0, 1, 0, 0, 1]) := RestOk.to (l := Q28_8) (by kernel_rfl) (by
    intro t bs K h0
    unfold Q28_8 at h0
    obtain ⟨r1, rfl, h1⟩ := skipU_inv h0
    obtain ⟨r3, rfl, h3⟩ := pI h1
    obtain ⟨t5, r5, rfl, h5⟩ := iI h3
    obtain ⟨r6, rfl, h6⟩ := skipU_inv h5
    obtain ⟨r8, rfl, h8⟩ := mI h6
    obtain ⟨t8, r10, rfl, h10⟩ := sI h8
    obtain ⟨t9, r12, rfl, h12⟩ := iI h10
    obtain ⟨r13, rfl, h13⟩ := skipU_inv h12
    obtain ⟨rfl, h14⟩ := nilK_inv h13
    obtain ⟨r17, r15, rfl, h17⟩ := bA h14
    obtain ⟨aa, r19, rfl, h19⟩ := lI h17
    obtain ⟨ab, r21, rfl, h21⟩ := bI h19
    obtain ⟨ac, r23, rfl, h23⟩ := bI h21
    obtain ⟨rfl, h24⟩ := nilK_inv h23
    obtain ⟨x1, r25, rfl, h26⟩ := bM h24
    obtain ⟨rfl, h27⟩ := bNilK_inv h26
    have h := h27
    refine ⟨_, _, rfl, rfl, ?_⟩
    rw [← J28_8_eq t5 t8 t9 aa ab ac x1 K]
    exact h)
theorem J28_7_eq (t5 : Int) (t6 : Int) (t8 : ByteArray) (t9 : Int) (aa : List PV) (ab : Bool) (ac : Bool) (x1 : List PV) (K : Ex → List PV → List Blk → Prop) : J28_7 t5 t6 t8 t9 aa ab ac x1 (fun z1 z4 z5 z6 z7 => K (.exit 0) (skU 4 ((.ptr 0 132 0 []) :: (.int .u64 t5) :: (.int .i64 z1) :: (.mapr 1) :: (.str t8) :: (.int .u64 t9) :: (.list 5 z4) :: skU 59 [])) [(.box true 132 (.agg [(.list 5 z5), (.bool z6), (.bool z7)])), (.map true 9 77 x1)]) (fun z1 z4 z5 z6 z7 z8 => K (.exit 0) (skU 4 ((.ptr 0 132 0 []) :: (.int .u64 t5) :: (.int .i64 z1) :: (.mapr 1) :: (.str t8) :: (.int .u64 t9) :: (.list 5 z4) :: (.list 5 z5) :: skU 58 [])) [(.box true 132 (.agg [(.list 5 z6), (.bool z7), (.bool z8)])), (.map true 9 77 x1)]) (K .ret (skU 2 (.nilm :: (.int .i64 4) :: skU 66 [])) []) (fun z1 z2 z3 z4 z5 z6 z7 => K .normal (skU 4 ((.ptr 0 132 0 []) :: (.int .u64 t5) :: (.int .i64 z1) :: (.mapr 1) :: (.str z2) :: (.int .u64 z3) :: skU 60 [])) [(.box true 132 (.agg [(.list 5 z4), (.bool z5), (.bool z6)])), (.map true 9 77 z7)]) = evC C28 (codeOf Try.f28 [1, 1, 1, 1, 0, 1, 0, 0, 1]) (mkSt (skU 4 ((.ptr 0 132 0 []) :: (.int .u64 t5) :: (.int .i64 t6) :: (.mapr 1) :: (.str t8) :: (.int .u64 t9) :: skU 60 [])) [(.box true 132 (.agg [(.list 5 aa), (.bool ab), (.bool ac)])), (.map true 9 77 x1)]) (onSt K) := by kernel_rfl
theorem Q28_7_ok : RestOk C28 (codeOf Try.f28 [1, 1, 1, 1, 0, 1, 0, 0, 1]) := RestOk.to (l := Q28_7) (by kernel_rfl) (by
    intro t bs K h0
    unfold Q28_7 at h0
    obtain ⟨r1, rfl, h1⟩ := skipU_inv h0
    obtain ⟨r3, rfl, h3⟩ := pI h1
    obtain ⟨t5, r5, rfl, h5⟩ := iI h3
    obtain ⟨t6, r7, rfl, h7⟩ := iI h5
    obtain ⟨r9, rfl, h9⟩ := mI h7
    obtain ⟨t8, r11, rfl, h11⟩ := sI h9
    obtain ⟨t9, r13, rfl, h13⟩ := iI h11
    obtain ⟨r14, rfl, h14⟩ := skipU_inv h13
    obtain ⟨rfl, h15⟩ := nilK_inv h14
    obtain ⟨r18, r16, rfl, h18⟩ := bA h15
    obtain ⟨aa, r20, rfl, h20⟩ := lI h18
    obtain ⟨ab, r22, rfl, h22⟩ := bI h20
    obtain ⟨ac, r24, rfl, h24⟩ := bI h22
    obtain ⟨rfl, h25⟩ := nilK_inv h24
    obtain ⟨x1, r26, rfl, h27⟩ := bM h25
    obtain ⟨rfl, h28⟩ := bNilK_inv h27
    have h := h28
    refine ⟨_, _, rfl, rfl, ?_⟩
    rw [← J28_7_eq t5 t6 t8 t9 aa ab ac x1 K]
    exact h)
theorem S28_5_eq (t5 : Int) (t6 : Int) (t8 : ByteArray) (t9 : Int) (aa : List PV) (ab : Bool) (ac : Bool) (x1 : List PV) (G : Ex → St → Prop) : evC C28 (codeOf Try.f28 [1, 1, 1, 1, 0, 1, 0, 0]) (mkSt (skU 4 ((.ptr 0 132 0 []) :: (.int .u64 t5) :: (.int .i64 t6) :: (.mapr 1) :: (.str t8) :: (.int .u64 t9) :: skU 60 [])) [(.box true 132 (.agg [(.list 5 aa), (.bool ab), (.bool ac)])), (.map true 9 77 x1)]) G = S28_5 t5 t6 t8 t9 aa ab ac x1 (fun t6 t8 t9 aa ab ac x1 => G .normal (mkSt (skU 4 ((.ptr 0 132 0 []) :: (.int .u64 t5) :: (.int .i64 t6) :: (.mapr 1) :: (.str t8) :: (.int .u64 t9) :: skU 60 [])) [(.box true 132 (.agg [(.list 5 aa), (.bool ab), (.bool ac)])), (.map true 9 77 x1)])) (fun z1 z2 z3 z4 z5 z6 z7 z8 => G (.exit 0) (mkSt (skU 4 ((.ptr 0 132 0 []) :: (.int .u64 t5) :: (.int .i64 z1) :: (.mapr 1) :: (.str z2) :: (.int .u64 z3) :: (.list 5 z4) :: skU 59 [])) [(.box true 132 (.agg [(.list 5 z5), (.bool z6), (.bool z7)])), (.map true 9 77 z8)])) (fun z1 z2 z3 z4 z5 z6 z7 z8 z9 => G (.exit 0) (mkSt (skU 4 ((.ptr 0 132 0 []) :: (.int .u64 t5) :: (.int .i64 z1) :: (.mapr 1) :: (.str z2) :: (.int .u64 z3) :: (.list 5 z4) :: (.list 5 z5) :: skU 58 [])) [(.box true 132 (.agg [(.list 5 z6), (.bool z7), (.bool z8)])), (.map true 9 77 z9)])) (G .ret (mkSt (skU 2 (.nilm :: (.int .i64 4) :: skU 66 [])) [])) (fun z1 z2 z3 z4 z5 z6 z7 => G (.exit 0) (mkSt (skU 4 ((.ptr 0 132 0 []) :: (.int .u64 t5) :: (.int .i64 z1) :: (.mapr 1) :: (.str z2) :: (.int .u64 z3) :: skU 60 [])) [(.box true 132 (.agg [(.list 5 z4), (.bool z5), (.bool z6)])), (.map true 9 77 z7)])) := by kernel_rfl
theorem R28_5_eq (t5 : Int) (G : Ex → St → Prop) : ∀ (n : Nat) (t6 : Int) (t8 : ByteArray) (t9 : Int) (aa : List PV) (ab : Bool) (ac : Bool) (x1 : List PV), evLoop C28 (codeOf Try.f28 [1, 1, 1, 1, 0, 1, 0, 0]) n (mkSt (skU 4 ((.ptr 0 132 0 []) :: (.int .u64 t5) :: (.int .i64 t6) :: (.mapr 1) :: (.str t8) :: (.int .u64 t9) :: skU 60 [])) [(.box true 132 (.agg [(.list 5 aa), (.bool ab), (.bool ac)])), (.map true 9 77 x1)]) G = R28_5 t5 (fun z1 z2 z3 z4 z5 z6 z7 z8 => G (.exit 0) (mkSt (skU 4 ((.ptr 0 132 0 []) :: (.int .u64 t5) :: (.int .i64 z1) :: (.mapr 1) :: (.str z2) :: (.int .u64 z3) :: (.list 5 z4) :: skU 59 [])) [(.box true 132 (.agg [(.list 5 z5), (.bool z6), (.bool z7)])), (.map true 9 77 z8)])) (fun z1 z2 z3 z4 z5 z6 z7 z8 z9 => G (.exit 0) (mkSt (skU 4 ((.ptr 0 132 0 []) :: (.int .u64 t5) :: (.int .i64 z1) :: (.mapr 1) :: (.str z2) :: (.int .u64 z3) :: (.list 5 z4) :: (.list 5 z5) :: skU 58 [])) [(.box true 132 (.agg [(.list 5 z6), (.bool z7), (.bool z8)])), (.map true 9 77 z9)])) (G .ret (mkSt (skU 2 (.nilm :: (.int .i64 4) :: skU 66 [])) [])) (fun z1 z2 z3 z4 z5 z6 z7 => G (.exit 0) (mkSt (skU 4 ((.ptr 0 132 0 []) :: (.int .u64 t5) :: (.int .i64 z1) :: (.mapr 1) :: (.str z2) :: (.int .u64 z3) :: skU 60 [])) [(.box true 132 (.agg [(.list 5 z4), (.bool z5), (.bool z6)])), (.map true 9 77 z7)])) n t6 t8 t9 aa ab ac x1
  | 0, _, _, _, _, _, _, _ => rfl
  | n + 1, t6, t8, t9, aa, ab, ac, x1 => (S28_5_eq t5 t6 t8 t9 aa ab ac x1 (fun e s => match e with | .normal => evLoop C28 (codeOf Try.f28 [1, 1, 1, 1, 0, 1, 0, 0]) n s G | .exit id => G (.exit id) s | .ret => G .ret s)).trans (congrArg (fun q => S28_5 t5 t6 t8 t9 aa ab ac x1 q (fun z1 z2 z3 z4 z5 z6 z7 z8 => G (.exit 0) (mkSt (skU 4 ((.ptr 0 132 0 []) :: (.int .u64 t5) :: (.int .i64 z1) :: (.mapr 1) :: (.str z2) :: (.int .u64 z3) :: (.list 5 z4) :: skU 59 [])) [(.box true 132 (.agg [(.list 5 z5), (.bool z6), (.bool z7)])), (.map true 9 77 z8)])) (fun z1 z2 z3 z4 z5 z6 z7 z8 z9 => G (.exit 0) (mkSt (skU 4 ((.ptr 0 132 0 []) :: (.int .u64 t5) :: (.int .i64 z1) :: (.mapr 1) :: (.str z2) :: (.int .u64 z3) :: (.list 5 z4) :: (.list 5 z5) :: skU 58 [])) [(.box true 132 (.agg [(.list 5 z6), (.bool z7), (.bool z8)])), (.map true 9 77 z9)])) (G .ret (mkSt (skU 2 (.nilm :: (.int .i64 4) :: skU 66 [])) [])) (fun z1 z2 z3 z4 z5 z6 z7 => G (.exit 0) (mkSt (skU 4 ((.ptr 0 132 0 []) :: (.int .u64 t5) :: (.int .i64 z1) :: (.mapr 1) :: (.str z2) :: (.int .u64 z3) :: skU 60 [])) [(.box true 132 (.agg [(.list 5 z4), (.bool z5), (.bool z6)])), (.map true 9 77 z7)]))) (funext fun t6 => funext fun t8 => funext fun t9 => funext fun aa => funext fun ab => funext fun ac => funext fun x1 => R28_5_eq t5 G n t6 t8 t9 aa ab ac x1))
theorem R28_5_eqK (t5 : Int) (K : Ex → List PV → List Blk → Prop) (n : Nat) (t6 : Int) (t8 : ByteArray) (t9 : Int) (aa : List PV) (ab : Bool) (ac : Bool) (x1 : List PV) : R28_5 t5 (fun z1 z2 z3 z4 z5 z6 z7 z8 => K (.exit 0) (skU 4 ((.ptr 0 132 0 []) :: (.int .u64 t5) :: (.int .i64 z1) :: (.mapr 1) :: (.str z2) :: (.int .u64 z3) :: (.list 5 z4) :: skU 59 [])) [(.box true 132 (.agg [(.list 5 z5), (.bool z6), (.bool z7)])), (.map true 9 77 z8)]) (fun z1 z2 z3 z4 z5 z6 z7 z8 z9 => K (.exit 0) (skU 4 ((.ptr 0 132 0 []) :: (.int .u64 t5) :: (.int .i64 z1) :: (.mapr 1) :: (.str z2) :: (.int .u64 z3) :: (.list 5 z4) :: (.list 5 z5) :: skU 58 [])) [(.box true 132 (.agg [(.list 5 z6), (.bool z7), (.bool z8)])), (.map true 9 77 z9)]) (K .ret (skU 2 (.nilm :: (.int .i64 4) :: skU 66 [])) []) (fun z1 z2 z3 z4 z5 z6 z7 => K (.exit 0) (skU 4 ((.ptr 0 132 0 []) :: (.int .u64 t5) :: (.int .i64 z1) :: (.mapr 1) :: (.str z2) :: (.int .u64 z3) :: skU 60 [])) [(.box true 132 (.agg [(.list 5 z4), (.bool z5), (.bool z6)])), (.map true 9 77 z7)]) n t6 t8 t9 aa ab ac x1 = evLoop C28 (codeOf Try.f28 [1, 1, 1, 1, 0, 1, 0, 0]) n (mkSt (skU 4 ((.ptr 0 132 0 []) :: (.int .u64 t5) :: (.int .i64 t6) :: (.mapr 1) :: (.str t8) :: (.int .u64 t9) :: skU 60 [])) [(.box true 132 (.agg [(.list 5 aa), (.bool ab), (.bool ac)])), (.map true 9 77 x1)]) (onSt K) := ((R28_5_eq t5 (onSt K) n t6 t8 t9 aa ab ac x1).trans (by kernel_rfl)).symm
theorem Q28_5_ok : LoopOk C28 (codeOf Try.f28 [1, 1, 1, 1, 0, 1, 0, 0]) := LoopOk.of (l := Q28_5) (by kernel_rfl) (fun t bs K h0 => by
    unfold Q28_5 at h0
    obtain ⟨r1, rfl, h1⟩ := skipU_inv h0
    obtain ⟨r3, rfl, h3⟩ := pI h1
    obtain ⟨t5, r5, rfl, h5⟩ := iI h3
    obtain ⟨t6, r7, rfl, h7⟩ := iI h5
    obtain ⟨r9, rfl, h9⟩ := mI h7
    obtain ⟨t8, r11, rfl, h11⟩ := sI h9
    obtain ⟨t9, r13, rfl, h13⟩ := iI h11
    obtain ⟨r14, rfl, h14⟩ := skipU_inv h13
    obtain ⟨rfl, h15⟩ := nilK_inv h14
    obtain ⟨r18, r16, rfl, h18⟩ := bA h15
    obtain ⟨aa, r20, rfl, h20⟩ := lI h18
    obtain ⟨ab, r22, rfl, h22⟩ := bI h20
    obtain ⟨ac, r24, rfl, h24⟩ := bI h22
    obtain ⟨rfl, h25⟩ := nilK_inv h24
    obtain ⟨x1, r26, rfl, h27⟩ := bM h25
    obtain ⟨rfl, h28⟩ := bNilK_inv h27
    have h := h28
    obtain ⟨n, hn⟩ := h
    refine ⟨n, ?_⟩
    rw [← R28_5_eqK t5 K n t6 t8 t9 aa ab ac x1]
    exact hn)
theorem J28_18_eq (x0 : List PV) (K : Ex → List PV → List Blk → Prop) : J28_18 x0 (K .ret (skU 2 ((.mapr 0) :: (.int .i64 0) :: skU 66 [])) [(.map true 9 77 x0)]) = evC C28 (codeOf Try.f28 [1, 1, 1, 1, 1, 1]) (mkSt (skU 7 ((.mapr 0) :: skU 62 [])) [(.map true 9 77 x0)]) (onSt K) := by kernel_rfl
theorem Q28_18_ok : RestOk C28 (codeOf Try.f28 [1, 1, 1, 1, 1, 1]) := RestOk.to (l := Q28_18) (by kernel_rfl) (by
    intro t bs K h0
    unfold Q28_18 at h0
    obtain ⟨r1, rfl, h1⟩ := skipU_inv h0
    obtain ⟨r3, rfl, h3⟩ := mI h1
    obtain ⟨r4, rfl, h4⟩ := skipU_inv h3
    obtain ⟨rfl, h5⟩ := nilK_inv h4
    obtain ⟨x0, r6, rfl, h7⟩ := bM h5
    obtain ⟨rfl, h8⟩ := bNilK_inv h7
    have h := h8
    refine ⟨_, _, rfl, rfl, ?_⟩
    rw [← J28_18_eq x0 K]
    exact h)
theorem J28_4_eq (t5 : Int) (t6 : Int) (t8 : ByteArray) (aa : List PV) (ab : Bool) (ac : Bool) (x1 : List PV) (K : Ex → List PV → List Blk → Prop) : J28_4 t5 t6 t8 aa ab ac x1 (K .ret (skU 2 (.nilm :: (.int .i64 4) :: skU 66 [])) []) (fun z1 => K .ret (skU 2 ((.mapr 0) :: (.int .i64 0) :: skU 66 [])) [(.map true 9 77 z1)]) = evC C28 (codeOf Try.f28 [1, 1, 1, 1]) (mkSt (skU 4 ((.ptr 0 132 0 []) :: (.int .u64 t5) :: (.int .i64 t6) :: (.mapr 1) :: (.str t8) :: skU 61 [])) [(.box true 132 (.agg [(.list 5 aa), (.bool ab), (.bool ac)])), (.map true 9 77 x1)]) (onSt K) := by kernel_rfl
theorem Q28_4_ok : RestOk C28 (codeOf Try.f28 [1, 1, 1, 1]) := RestOk.to (l := Q28_4) (by kernel_rfl) (by
    intro t bs K h0
    unfold Q28_4 at h0
    obtain ⟨r1, rfl, h1⟩ := skipU_inv h0
    obtain ⟨r3, rfl, h3⟩ := pI h1
    obtain ⟨t5, r5, rfl, h5⟩ := iI h3
    obtain ⟨t6, r7, rfl, h7⟩ := iI h5
    obtain ⟨r9, rfl, h9⟩ := mI h7
    obtain ⟨t8, r11, rfl, h11⟩ := sI h9
    obtain ⟨r12, rfl, h12⟩ := skipU_inv h11
    obtain ⟨rfl, h13⟩ := nilK_inv h12
    obtain ⟨r16, r14, rfl, h16⟩ := bA h13
    obtain ⟨aa, r18, rfl, h18⟩ := lI h16
    obtain ⟨ab, r20, rfl, h20⟩ := bI h18
    obtain ⟨ac, r22, rfl, h22⟩ := bI h20
    obtain ⟨rfl, h23⟩ := nilK_inv h22
    obtain ⟨x1, r24, rfl, h25⟩ := bM h23
    obtain ⟨rfl, h26⟩ := bNilK_inv h25
    have h := h26
    refine ⟨_, _, rfl, rfl, ?_⟩
    rw [← J28_4_eq t5 t6 t8 aa ab ac x1 K]
    exact h)
theorem J28_3_eq (t5 : Int) (t6 : Int) (aa : List PV) (ab : Bool) (ac : Bool) (K : Ex → List PV → List Blk → Prop) : J28_3 t5 t6 aa ab ac (K .ret (skU 2 (.nilm :: (.int .i64 4) :: skU 66 [])) []) (fun z1 => K .ret (skU 2 ((.mapr 0) :: (.int .i64 0) :: skU 66 [])) [(.map true 9 77 z1)]) = evC C28 (codeOf Try.f28 [1, 1, 1]) (mkSt (skU 4 ((.ptr 0 132 0 []) :: (.int .u64 t5) :: (.int .i64 t6) :: skU 63 [])) [(.box true 132 (.agg [(.list 5 aa), (.bool ab), (.bool ac)]))]) (onSt K) := by kernel_rfl
theorem Q28_3_ok : RestOk C28 (codeOf Try.f28 [1, 1, 1]) := RestOk.to (l := Q28_3) (by kernel_rfl) (by
    intro t bs K h0
    unfold Q28_3 at h0
    obtain ⟨r1, rfl, h1⟩ := skipU_inv h0
    obtain ⟨r3, rfl, h3⟩ := pI h1
    obtain ⟨t5, r5, rfl, h5⟩ := iI h3
    obtain ⟨t6, r7, rfl, h7⟩ := iI h5
    obtain ⟨r8, rfl, h8⟩ := skipU_inv h7
    obtain ⟨rfl, h9⟩ := nilK_inv h8
    obtain ⟨r12, r10, rfl, h12⟩ := bA h9
    obtain ⟨aa, r14, rfl, h14⟩ := lI h12
    obtain ⟨ab, r16, rfl, h16⟩ := bI h14
    obtain ⟨ac, r18, rfl, h18⟩ := bI h16
    obtain ⟨rfl, h19⟩ := nilK_inv h18
    obtain ⟨rfl, h20⟩ := bNilK_inv h19
    have h := h20
    refine ⟨_, _, rfl, rfl, ?_⟩
    rw [← J28_3_eq t5 t6 aa ab ac K]
    exact h)
theorem J28_2_eq (t0 : List PV) (aa : List PV) (ab : Bool) (ac : Bool) (K : Ex → List PV → List Blk → Prop) : J28_2 t0 aa ab ac (K .ret (skU 2 (.nilm :: (.int .i64 4) :: skU 66 [])) []) (fun z1 => K .ret (skU 2 ((.mapr 0) :: (.int .i64 0) :: skU 66 [])) [(.map true 9 77 z1)]) = evC C28 (codeOf Try.f28 [1, 1]) (mkSt ((.list 5 t0) :: skU 3 ((.ptr 0 132 0 []) :: skU 65 [])) [(.box true 132 (.agg [(.list 5 aa), (.bool ab), (.bool ac)]))]) (onSt K) := by kernel_rfl
theorem Q28_2_ok : RestOk C28 (codeOf Try.f28 [1, 1]) := RestOk.to (l := Q28_2) (by kernel_rfl) (by
    intro t bs K h0
    unfold Q28_2 at h0
    obtain ⟨t0, r2, rfl, h2⟩ := lI h0
    obtain ⟨r3, rfl, h3⟩ := skipU_inv h2
    obtain ⟨r5, rfl, h5⟩ := pI h3
    obtain ⟨r6, rfl, h6⟩ := skipU_inv h5
    obtain ⟨rfl, h7⟩ := nilK_inv h6
    obtain ⟨r10, r8, rfl, h10⟩ := bA h7
    obtain ⟨aa, r12, rfl, h12⟩ := lI h10
    obtain ⟨ab, r14, rfl, h14⟩ := bI h12
    obtain ⟨ac, r16, rfl, h16⟩ := bI h14
    obtain ⟨rfl, h17⟩ := nilK_inv h16
    obtain ⟨rfl, h18⟩ := bNilK_inv h17
    have h := h18
    refine ⟨_, _, rfl, rfl, ?_⟩
    rw [← J28_2_eq t0 aa ab ac K]
    exact h)
theorem J28_1_eq (t0 : List PV) (K : Ex → List PV → List Blk → Prop) : J28_1 t0 (K .ret (skU 2 (.nilm :: (.int .i64 4) :: skU 66 [])) []) (fun z1 => K .ret (skU 2 ((.mapr 0) :: (.int .i64 0) :: skU 66 [])) [(.map true 9 77 z1)]) = evC C28 (codeOf Try.f28 [1]) (mkSt ((.list 5 t0) :: skU 69 []) []) (onSt K) := by kernel_rfl
theorem Q28_1_ok : RestOk C28 (codeOf Try.f28 [1]) := RestOk.to (l := Q28_1) (by kernel_rfl) (by
    intro t bs K h0
    unfold Q28_1 at h0
    obtain ⟨t0, r2, rfl, h2⟩ := lI h0
    obtain ⟨r3, rfl, h3⟩ := skipU_inv h2
    obtain ⟨rfl, h4⟩ := nilK_inv h3
    obtain ⟨rfl, h5⟩ := bNilK_inv h4
    have h := h5
    refine ⟨_, _, rfl, rfl, ?_⟩
    rw [← J28_1_eq t0 K]
    exact h)
theorem B28_eq (t0 : List PV) (K : List Blk → List PV → Prop) : evF C28 Try.f28 [] [(.list 5 t0)] K = (([] : List Blk).length = 0 ∧ B28 t0 (K [] [.nilm, (.int .i64 4)]) (fun z0 => K [(.map true 9 77 z0)] [(.mapr 0), (.int .i64 0)])) := by kernel_rfl
theorem W28_of (hT : AllSound Try.prog pvT pvG T28) : Sound Try.prog pvT pvG 28 W28 := Sound.weak (evF_sound (C := C28) (Base.of pvT_fits pvT_sized pvT_eq hT pvMixed pvIt_ok) Try.func28 (LoopsOk.of (C := C28) (fn := Try.f28) (l := [codeOf Try.f28 [1, 1, 1, 1, 0, 1, 0, 0]]) (r := [codeOf Try.f28 [1], codeOf Try.f28 [1, 1], codeOf Try.f28 [1, 1, 1], codeOf Try.f28 [1, 1, 1, 1], codeOf Try.f28 [1, 1, 1, 1, 1], codeOf Try.f28 [1, 1, 1, 1, 0, 1], codeOf Try.f28 [1, 1, 1, 1, 0, 1, 0, 0, 1], codeOf Try.f28 [1, 1, 1, 1, 0, 1, 0, 0, 0, 1], codeOf Try.f28 [1, 1, 1, 1, 0, 1, 0, 0, 1, 1], codeOf Try.f28 [1, 1, 1, 1, 0, 1, 0, 0, 1, 0, 0, 1], codeOf Try.f28 [1, 1, 1, 1, 0, 1, 0, 0, 1, 0, 0, 1, 1], codeOf Try.f28 [1, 1, 1, 1, 0, 1, 0, 0, 1, 0, 0, 1, 0, 1], codeOf Try.f28 [1, 1, 1, 1, 0, 1, 0, 0, 1, 0, 0, 1, 0, 1, 1], codeOf Try.f28 [1, 1, 1, 1, 0, 1, 0, 0, 1, 0, 0, 1, 1, 1], codeOf Try.f28 [1, 1, 1, 1, 0, 1, 0, 0, 1, 0, 0, 1, 1, 0, 1], codeOf Try.f28 [1, 1, 1, 1, 0, 1, 0, 0, 1, 0, 0, 1, 1, 0, 1, 1], codeOf Try.f28 [1, 1, 1, 1, 0, 1, 0, 0, 1, 0, 0, 1, 1, 1, 1], codeOf Try.f28 [1, 1, 1, 1, 0, 1, 0, 0, 1, 0, 0, 1, 1, 1, 0, 1], codeOf Try.f28 [1, 1, 1, 1, 0, 1, 0, 0, 1, 0, 0, 1, 1, 1, 0, 1, 0, 1], codeOf Try.f28 [1, 1, 1, 1, 0, 1, 0, 0, 1, 0, 0, 1, 1, 1, 1, 1], codeOf Try.f28 [1, 1, 1, 1, 1, 1], codeOf Try.f28 [1, 1, 1, 1, 1, 0, 1], codeOf Try.f28 [1, 1, 1, 1, 1, 0, 1, 0, 1], codeOf Try.f28 [1, 1, 1, 1, 1, 1, 1]]) (g := []) (by kernel_rfl) (by kernel_rfl) (by kernel_rfl) ⟨Q28_5_ok, trivial⟩ ⟨Q28_1_ok, ⟨Q28_2_ok, ⟨Q28_3_ok, ⟨Q28_4_ok, ⟨(RestOk.none (by kernel_rfl)), ⟨(RestOk.none (by kernel_rfl)), ⟨Q28_7_ok, ⟨(RestOk.none (by kernel_rfl)), ⟨(RestOk.none (by kernel_rfl)), ⟨Q28_8_ok, ⟨Q28_10_ok, ⟨Q28_9_ok, ⟨(RestOk.none (by kernel_rfl)), ⟨Q28_12_ok, ⟨Q28_11_ok, ⟨(RestOk.none (by kernel_rfl)), ⟨Q28_14_ok, ⟨(RestOk.none (by kernel_rfl)), ⟨(RestOk.none (by kernel_rfl)), ⟨(RestOk.none (by kernel_rfl)), ⟨Q28_18_ok, ⟨(RestOk.none (by kernel_rfl)), ⟨(RestOk.none (by kernel_rfl)), ⟨(RestOk.none (by kernel_rfl)), trivial⟩⟩⟩⟩⟩⟩⟩⟩⟩⟩⟩⟩⟩⟩⟩⟩⟩⟩⟩⟩⟩⟩⟩⟩ trivial) (evF_to (C := C28) (fun bs t K h0 => by
    unfold P28 at h0
    obtain ⟨t0, r2, rfl, h2⟩ := lI h0
    obtain ⟨rfl, h3⟩ := nilK_inv h2
    obtain ⟨rfl, h4⟩ := bNilK_inv h3
    have h := h4
    refine ⟨_, _, rfl, rfl, ?_⟩
    rw [B28_eq t0 K]
    exact ⟨rfl, h⟩))) _
end Pv

namespace Pv
open Go Go.Proofs

theorem S9_3_eq (l1 : List PV) (x0 : List PV) (x1 : List PV) (G : Ex → St → Prop) : evC C9 (codeOf Try.f9 [1, 1, 0, 1, 0, 0]) (mkSt (skU 1 ((.list 36 l1) :: skU 3 ((.mapr 0) :: skU 5 ((.ptr 1 0 0 []) :: skU 39 [])))) [(.map true 9 74 x0), (.iter true 9 74 x1 .undef)]) G = S9_3 l1 x0 x1 (fun x0 x1 => G .normal (mkSt (skU 1 ((.list 36 l1) :: skU 3 ((.mapr 0) :: skU 5 ((.ptr 1 0 0 []) :: skU 39 [])))) [(.map true 9 74 x0), (.iter true 9 74 x1 .undef)])) (fun z1 z2 => G (.exit 0) (mkSt (skU 1 ((.list 36 l1) :: skU 3 ((.mapr 0) :: skU 5 ((.ptr 1 0 0 []) :: skU 39 [])))) [(.map true 9 74 z1), (.iter true 9 74 z2 .undef)])) := by kernel_rfl
theorem R9_3_eq (l1 : List PV) (G : Ex → St → Prop) : ∀ (n : Nat) (x0 : List PV) (x1 : List PV), evLoop C9 (codeOf Try.f9 [1, 1, 0, 1, 0, 0]) n (mkSt (skU 1 ((.list 36 l1) :: skU 3 ((.mapr 0) :: skU 5 ((.ptr 1 0 0 []) :: skU 39 [])))) [(.map true 9 74 x0), (.iter true 9 74 x1 .undef)]) G = R9_3 l1 (fun z1 z2 => G (.exit 0) (mkSt (skU 1 ((.list 36 l1) :: skU 3 ((.mapr 0) :: skU 5 ((.ptr 1 0 0 []) :: skU 39 [])))) [(.map true 9 74 z1), (.iter true 9 74 z2 .undef)])) n x0 x1
  | 0, _, _ => rfl
  | n + 1, x0, x1 => (S9_3_eq l1 x0 x1 (fun e s => match e with | .normal => evLoop C9 (codeOf Try.f9 [1, 1, 0, 1, 0, 0]) n s G | .exit id => G (.exit id) s | .ret => G .ret s)).trans (congrArg (fun q => S9_3 l1 x0 x1 q (fun z1 z2 => G (.exit 0) (mkSt (skU 1 ((.list 36 l1) :: skU 3 ((.mapr 0) :: skU 5 ((.ptr 1 0 0 []) :: skU 39 [])))) [(.map true 9 74 z1), (.iter true 9 74 z2 .undef)]))) (funext fun x0 => funext fun x1 => R9_3_eq l1 G n x0 x1))
theorem R9_3_eqK (l1 : List PV) (K : Ex → List PV → List Blk → Prop) (n : Nat) (x0 : List PV) (x1 : List PV) : R9_3 l1 (fun z1 z2 => K (.exit 0) (skU 1 ((.list 36 l1) :: skU 3 ((.mapr 0) :: skU 5 ((.ptr 1 0 0 []) :: skU 39 [])))) [(.map true 9 74 z1), (.iter true 9 74 z2 .undef)]) n x0 x1 = evLoop C9 (codeOf Try.f9 [1, 1, 0, 1, 0, 0]) n (mkSt (skU 1 ((.list 36 l1) :: skU 3 ((.mapr 0) :: skU 5 ((.ptr 1 0 0 []) :: skU 39 [])))) [(.map true 9 74 x0), (.iter true 9 74 x1 .undef)]) (onSt K) := ((R9_3_eq l1 (onSt K) n x0 x1).trans (by kernel_rfl)).symm
theorem Q9_3_ok : LoopOk C9 (codeOf Try.f9 [1, 1, 0, 1, 0, 0]) := LoopOk.of (l := Q9_3) (by kernel_rfl) (fun t bs K h0 => by
    unfold Q9_3 at h0
    obtain ⟨r1, rfl, h1⟩ := skipU_inv h0
    obtain ⟨l1, r3, rfl, h3⟩ := lI h1
    obtain ⟨r4, rfl, h4⟩ := skipU_inv h3
    obtain ⟨r6, rfl, h6⟩ := mI h4
    obtain ⟨r7, rfl, h7⟩ := skipU_inv h6
    obtain ⟨r9, rfl, h9⟩ := pI h7
    obtain ⟨r10, rfl, h10⟩ := skipU_inv h9
    obtain ⟨rfl, h11⟩ := nilK_inv h10
    obtain ⟨x0, r12, rfl, h13⟩ := bM h11
    obtain ⟨r13, r14, rfl, h14⟩ := bConsK_inv h13
    obtain ⟨x1, r15, rfl, h15⟩ := bIterK_inv h14
    obtain ⟨rfl, h16⟩ := undefK_inv h15
    obtain ⟨rfl, h17⟩ := bNilK_inv h16
    have h := h17
    obtain ⟨n, hn⟩ := h
    refine ⟨n, ?_⟩
    rw [← R9_3_eqK l1 K n x0 x1]
    exact hn)
theorem J9_10_eq (l1 : List PV) (i8 : Int) (x0 : List PV) (K : Ex → List PV → List Blk → Prop) : J9_10 l1 i8 x0 (fun z2 => K .normal (skU 1 ((.list 36 l1) :: skU 3 ((.mapr 0) :: skU 2 ((.int .i64 i8) :: skU 42 [])))) [(.map true 9 74 z2)]) = evC C9 (codeOf Try.f9 [1, 1, 1, 0, 1, 0, 0, 1, 0, 0, 1]) (mkSt (skU 1 ((.list 36 l1) :: skU 3 ((.mapr 0) :: skU 2 ((.int .i64 i8) :: skU 42 [])))) [(.map true 9 74 x0)]) (onSt K) := by kernel_rfl
theorem Q9_10_ok : RestOk C9 (codeOf Try.f9 [1, 1, 1, 0, 1, 0, 0, 1, 0, 0, 1]) := RestOk.to (l := Q9_10) (by kernel_rfl) (by
    intro t bs K h0
    unfold Q9_10 at h0
    obtain ⟨r1, rfl, h1⟩ := skipU_inv h0
    obtain ⟨l1, r3, rfl, h3⟩ := lI h1
    obtain ⟨r4, rfl, h4⟩ := skipU_inv h3
    obtain ⟨r6, rfl, h6⟩ := mI h4
    obtain ⟨r7, rfl, h7⟩ := skipU_inv h6
    obtain ⟨i8, r9, rfl, h9⟩ := iI h7
    obtain ⟨r10, rfl, h10⟩ := skipU_inv h9
    obtain ⟨rfl, h11⟩ := nilK_inv h10
    obtain ⟨x0, r12, rfl, h13⟩ := bM h11
    obtain ⟨rfl, h14⟩ := bNilK_inv h13
    have h := h14
    refine ⟨_, _, rfl, rfl, ?_⟩
    rw [← J9_10_eq l1 i8 x0 K]
    exact h)
theorem S9_7_eq (l1 : List PV) (i8 : Int) (x0 : List PV) (G : Ex → St → Prop) : evC C9 (codeOf Try.f9 [1, 1, 1, 0, 1, 0, 0]) (mkSt (skU 1 ((.list 36 l1) :: skU 3 ((.mapr 0) :: skU 2 ((.int .i64 i8) :: skU 42 [])))) [(.map true 9 74 x0)]) G = S9_7 l1 i8 x0 (fun i8 x0 => G .normal (mkSt (skU 1 ((.list 36 l1) :: skU 3 ((.mapr 0) :: skU 2 ((.int .i64 i8) :: skU 42 [])))) [(.map true 9 74 x0)])) (fun z1 z2 => G (.exit 2) (mkSt (skU 1 ((.list 36 l1) :: skU 3 ((.mapr 0) :: skU 2 ((.int .i64 z1) :: skU 42 [])))) [(.map true 9 74 z2)])) := by kernel_rfl
theorem R9_7_eq (l1 : List PV) (G : Ex → St → Prop) : ∀ (n : Nat) (i8 : Int) (x0 : List PV), evLoop C9 (codeOf Try.f9 [1, 1, 1, 0, 1, 0, 0]) n (mkSt (skU 1 ((.list 36 l1) :: skU 3 ((.mapr 0) :: skU 2 ((.int .i64 i8) :: skU 42 [])))) [(.map true 9 74 x0)]) G = R9_7 l1 (fun z1 z2 => G (.exit 2) (mkSt (skU 1 ((.list 36 l1) :: skU 3 ((.mapr 0) :: skU 2 ((.int .i64 z1) :: skU 42 [])))) [(.map true 9 74 z2)])) n i8 x0
  | 0, _, _ => rfl
  | n + 1, i8, x0 => (S9_7_eq l1 i8 x0 (fun e s => match e with | .normal => evLoop C9 (codeOf Try.f9 [1, 1, 1, 0, 1, 0, 0]) n s G | .exit id => G (.exit id) s | .ret => G .ret s)).trans (congrArg (fun q => S9_7 l1 i8 x0 q (fun z1 z2 => G (.exit 2) (mkSt (skU 1 ((.list 36 l1) :: skU 3 ((.mapr 0) :: skU 2 ((.int .i64 z1) :: skU 42 [])))) [(.map true 9 74 z2)]))) (funext fun i8 => funext fun x0 => R9_7_eq l1 G n i8 x0))
theorem R9_7_eqK (l1 : List PV) (K : Ex → List PV → List Blk → Prop) (n : Nat) (i8 : Int) (x0 : List PV) : R9_7 l1 (fun z1 z2 => K (.exit 2) (skU 1 ((.list 36 l1) :: skU 3 ((.mapr 0) :: skU 2 ((.int .i64 z1) :: skU 42 [])))) [(.map true 9 74 z2)]) n i8 x0 = evLoop C9 (codeOf Try.f9 [1, 1, 1, 0, 1, 0, 0]) n (mkSt (skU 1 ((.list 36 l1) :: skU 3 ((.mapr 0) :: skU 2 ((.int .i64 i8) :: skU 42 [])))) [(.map true 9 74 x0)]) (onSt K) := ((R9_7_eq l1 (onSt K) n i8 x0).trans (by kernel_rfl)).symm
theorem Q9_7_ok : LoopOk C9 (codeOf Try.f9 [1, 1, 1, 0, 1, 0, 0]) := LoopOk.of (l := Q9_7) (by kernel_rfl) (fun t bs K h0 => by
    unfold Q9_7 at h0
    obtain ⟨r1, rfl, h1⟩ := skipU_inv h0
    obtain ⟨l1, r3, rfl, h3⟩ := lI h1
    obtain ⟨r4, rfl, h4⟩ := skipU_inv h3
    obtain ⟨r6, rfl, h6⟩ := mI h4
    obtain ⟨r7, rfl, h7⟩ := skipU_inv h6
    obtain ⟨i8, r9, rfl, h9⟩ := iI h7
    obtain ⟨r10, rfl, h10⟩ := skipU_inv h9
    obtain ⟨rfl, h11⟩ := nilK_inv h10
    obtain ⟨x0, r12, rfl, h13⟩ := bM h11
    obtain ⟨rfl, h14⟩ := bNilK_inv h13
    have h := h14
    obtain ⟨n, hn⟩ := h
    refine ⟨n, ?_⟩
    rw [← R9_7_eqK l1 K n i8 x0]
    exact hn)
theorem B9_eq (m0 : List PV) (l1 : List PV) (K : List Blk → List PV → Prop) : evF C9 Try.f9 [] [(.dmap 9 74 m0), (.list 36 l1)] K = (([] : List Blk).length = 0 ∧ B9 m0 l1 (fun z0 => K [(.map true 9 74 z0)] [(.mapr 0)])) := by kernel_rfl
theorem W9_of (hT : AllSound Try.prog pvT pvG T9) : Sound Try.prog pvT pvG 9 W9 := Sound.weak (evF_sound (C := C9) (Base.of pvT_fits pvT_sized pvT_eq hT pvMixed pvIt_ok) Try.func9 (LoopsOk.of (C := C9) (fn := Try.f9) (l := [codeOf Try.f9 [1, 1, 0, 1, 0, 0], codeOf Try.f9 [1, 1, 1, 0, 1, 0, 0]]) (r := [codeOf Try.f9 [1], codeOf Try.f9 [1, 1], codeOf Try.f9 [1, 1, 1], codeOf Try.f9 [1, 1, 0, 1], codeOf Try.f9 [1, 1, 0, 1, 0, 0, 1], codeOf Try.f9 [1, 1, 0, 1, 0, 0, 1, 1], codeOf Try.f9 [1, 1, 0, 1, 0, 0, 1, 1, 0, 1], codeOf Try.f9 [1, 1, 1, 1], codeOf Try.f9 [1, 1, 1, 0, 1], codeOf Try.f9 [1, 1, 1, 0, 1, 0, 0, 1], codeOf Try.f9 [1, 1, 1, 0, 1, 0, 0, 0, 1], codeOf Try.f9 [1, 1, 1, 0, 1, 0, 0, 1, 1], codeOf Try.f9 [1, 1, 1, 0, 1, 0, 0, 1, 0, 0, 1], codeOf Try.f9 [1, 1, 1, 0, 1, 0, 0, 1, 0, 0, 1, 1], codeOf Try.f9 [1, 1, 1, 1, 1]]) (g := []) (by kernel_rfl) (by kernel_rfl) (by kernel_rfl) ⟨Q9_3_ok, ⟨Q9_7_ok, trivial⟩⟩ ⟨(RestOk.none (by kernel_rfl)), ⟨(RestOk.none (by kernel_rfl)), ⟨(RestOk.none (by kernel_rfl)), ⟨(RestOk.none (by kernel_rfl)), ⟨(RestOk.none (by kernel_rfl)), ⟨(RestOk.none (by kernel_rfl)), ⟨(RestOk.none (by kernel_rfl)), ⟨(RestOk.none (by kernel_rfl)), ⟨(RestOk.none (by kernel_rfl)), ⟨(RestOk.none (by kernel_rfl)), ⟨(RestOk.none (by kernel_rfl)), ⟨(RestOk.none (by kernel_rfl)), ⟨Q9_10_ok, ⟨(RestOk.none (by kernel_rfl)), ⟨(RestOk.none (by kernel_rfl)), trivial⟩⟩⟩⟩⟩⟩⟩⟩⟩⟩⟩⟩⟩⟩⟩ trivial) (evF_to (C := C9) (fun bs t K h0 => by
    unfold P9 at h0
    obtain ⟨r1, r2, rfl, h1⟩ := consK_inv h0
    obtain ⟨m0, rfl, h2⟩ := dmapK_inv h1
    obtain ⟨l1, r4, rfl, h4⟩ := lI h2
    obtain ⟨rfl, h5⟩ := nilK_inv h4
    obtain ⟨rfl, h6⟩ := bNilK_inv h5
    have h := h6
    refine ⟨_, _, rfl, rfl, ?_⟩
    rw [B9_eq m0 l1 K]
    exact ⟨rfl, h⟩))) _
end Pv

namespace Pv
open Go Go.Proofs

theorem S25_5_eq (out6n : Nat) (t26i : Nat) (t26n : Nat) (t27 : Int) (t28 : Int) (aa : Nat) (ab : Bool) (ac : Bool) (ad : Int) (ae : Int) (af : Int) (x1 : List PV) (x2 : List PV) (G : Ex → St → Prop) : evC C25 (codeOf Try.f25 [1, 1, 0, 1, 0, 0]) (mkSt (skU 6 ((.sl 2 5 0 out6n) :: skU 19 ((.sl 1 111 t26i t26n) :: (.int .i64 t27) :: (.int .i64 t28) :: skU 8 []))) [(.box true 64 (.agg [(.sl 1 111 0 aa), (.bool ab), (.bool ac), (.int .i64 ad), (.int .i64 ae), (.int .i64 af)])), (.row true 111 x1), (.row true 5 x2)]) G = S25_5 t26i t26n t27 aa ab ac ad ae af x1 out6n t28 x2 (fun out6n t28 x2 => G .normal (mkSt (skU 6 ((.sl 2 5 0 out6n) :: skU 19 ((.sl 1 111 t26i t26n) :: (.int .i64 t27) :: (.int .i64 t28) :: skU 8 []))) [(.box true 64 (.agg [(.sl 1 111 0 aa), (.bool ab), (.bool ac), (.int .i64 ad), (.int .i64 ae), (.int .i64 af)])), (.row true 111 x1), (.row true 5 x2)])) (fun z0 z4 z12 => G (.exit 0) (mkSt (skU 6 ((.sl 2 5 0 z0) :: skU 19 ((.sl 1 111 t26i t26n) :: (.int .i64 t27) :: (.int .i64 z4) :: skU 8 []))) [(.box true 64 (.agg [(.sl 1 111 0 aa), (.bool ab), (.bool ac), (.int .i64 ad), (.int .i64 ae), (.int .i64 af)])), (.row true 111 x1), (.row true 5 z12)])) := by kernel_rfl
theorem R25_5_eq (t26i : Nat) (t26n : Nat) (t27 : Int) (aa : Nat) (ab : Bool) (ac : Bool) (ad : Int) (ae : Int) (af : Int) (x1 : List PV) (G : Ex → St → Prop) : ∀ (n : Nat) (out6n : Nat) (t28 : Int) (x2 : List PV), evLoop C25 (codeOf Try.f25 [1, 1, 0, 1, 0, 0]) n (mkSt (skU 6 ((.sl 2 5 0 out6n) :: skU 19 ((.sl 1 111 t26i t26n) :: (.int .i64 t27) :: (.int .i64 t28) :: skU 8 []))) [(.box true 64 (.agg [(.sl 1 111 0 aa), (.bool ab), (.bool ac), (.int .i64 ad), (.int .i64 ae), (.int .i64 af)])), (.row true 111 x1), (.row true 5 x2)]) G = R25_5 t26i t26n t27 aa ab ac ad ae af x1 (fun z0 z4 z12 => G (.exit 0) (mkSt (skU 6 ((.sl 2 5 0 z0) :: skU 19 ((.sl 1 111 t26i t26n) :: (.int .i64 t27) :: (.int .i64 z4) :: skU 8 []))) [(.box true 64 (.agg [(.sl 1 111 0 aa), (.bool ab), (.bool ac), (.int .i64 ad), (.int .i64 ae), (.int .i64 af)])), (.row true 111 x1), (.row true 5 z12)])) n out6n t28 x2
  | 0, _, _, _ => rfl
  | n + 1, out6n, t28, x2 => (S25_5_eq out6n t26i t26n t27 t28 aa ab ac ad ae af x1 x2 (fun e s => match e with | .normal => evLoop C25 (codeOf Try.f25 [1, 1, 0, 1, 0, 0]) n s G | .exit id => G (.exit id) s | .ret => G .ret s)).trans (congrArg (fun q => S25_5 t26i t26n t27 aa ab ac ad ae af x1 out6n t28 x2 q (fun z0 z4 z12 => G (.exit 0) (mkSt (skU 6 ((.sl 2 5 0 z0) :: skU 19 ((.sl 1 111 t26i t26n) :: (.int .i64 t27) :: (.int .i64 z4) :: skU 8 []))) [(.box true 64 (.agg [(.sl 1 111 0 aa), (.bool ab), (.bool ac), (.int .i64 ad), (.int .i64 ae), (.int .i64 af)])), (.row true 111 x1), (.row true 5 z12)]))) (funext fun out6n => funext fun t28 => funext fun x2 => R25_5_eq t26i t26n t27 aa ab ac ad ae af x1 G n out6n t28 x2))
theorem R25_5_eqK (t26i : Nat) (t26n : Nat) (t27 : Int) (aa : Nat) (ab : Bool) (ac : Bool) (ad : Int) (ae : Int) (af : Int) (x1 : List PV) (K : Ex → List PV → List Blk → Prop) (n : Nat) (out6n : Nat) (t28 : Int) (x2 : List PV) : R25_5 t26i t26n t27 aa ab ac ad ae af x1 (fun z0 z4 z12 => K (.exit 0) (skU 6 ((.sl 2 5 0 z0) :: skU 19 ((.sl 1 111 t26i t26n) :: (.int .i64 t27) :: (.int .i64 z4) :: skU 8 []))) [(.box true 64 (.agg [(.sl 1 111 0 aa), (.bool ab), (.bool ac), (.int .i64 ad), (.int .i64 ae), (.int .i64 af)])), (.row true 111 x1), (.row true 5 z12)]) n out6n t28 x2 = evLoop C25 (codeOf Try.f25 [1, 1, 0, 1, 0, 0]) n (mkSt (skU 6 ((.sl 2 5 0 out6n) :: skU 19 ((.sl 1 111 t26i t26n) :: (.int .i64 t27) :: (.int .i64 t28) :: skU 8 []))) [(.box true 64 (.agg [(.sl 1 111 0 aa), (.bool ab), (.bool ac), (.int .i64 ad), (.int .i64 ae), (.int .i64 af)])), (.row true 111 x1), (.row true 5 x2)]) (onSt K) := ((R25_5_eq t26i t26n t27 aa ab ac ad ae af x1 (onSt K) n out6n t28 x2).trans (by kernel_rfl)).symm
theorem Q25_5_ok : LoopOk C25 (codeOf Try.f25 [1, 1, 0, 1, 0, 0]) := LoopOk.of (l := Q25_5) (by kernel_rfl) (fun t bs K h0 => by
    unfold Q25_5 at h0
    obtain ⟨r1, rfl, h1⟩ := skipU_inv h0
    obtain ⟨out6n, r3, rfl, h3⟩ := zI h1
    obtain ⟨r4, rfl, h4⟩ := skipU_inv h3
    obtain ⟨r5, r6, rfl, h5⟩ := consK_inv h4
    obtain ⟨t26i, t26n, rfl, h6⟩ := slK_inv h5
    obtain ⟨t27, r8, rfl, h8⟩ := iI h6
    obtain ⟨t28, r10, rfl, h10⟩ := iI h8
    obtain ⟨r11, rfl, h11⟩ := skipU_inv h10
    obtain ⟨rfl, h12⟩ := nilK_inv h11
    obtain ⟨r15, r13, rfl, h15⟩ := bA h12
    obtain ⟨aa, r17, rfl, h17⟩ := zI h15
    obtain ⟨ab, r19, rfl, h19⟩ := bI h17
    obtain ⟨ac, r21, rfl, h21⟩ := bI h19
    obtain ⟨ad, r23, rfl, h23⟩ := iI h21
    obtain ⟨ae, r25, rfl, h25⟩ := iI h23
    obtain ⟨af, r27, rfl, h27⟩ := iI h25
    obtain ⟨rfl, h28⟩ := nilK_inv h27
    obtain ⟨x1, r29, rfl, h30⟩ := bR h28
    obtain ⟨x2, r31, rfl, h32⟩ := bR h30
    obtain ⟨rfl, h33⟩ := bNilK_inv h32
    have h := h33
    obtain ⟨n, hn⟩ := h
    refine ⟨n, ?_⟩
    rw [← R25_5_eqK t26i t26n t27 aa ab ac ad ae af x1 K n out6n t28 x2]
    exact hn)
theorem B25_eq (uat : Int) (many : Int) (dn : Nat) (off : Bool) (cut : Bool) (whole : Int) (kept : Int) (writes : Int) (secs : List PV) (K : List Blk → List PV → Prop) : evF C25 Try.f25 [(.box true 64 (.agg [(.sl 1 111 0 dn), (.bool off), (.bool cut), (.int .i64 whole), (.int .i64 kept), (.int .i64 writes)])), (.row true 111 secs)] [(.ptr 0 64 0 []), (.int .i64 uat), (.int .i64 many)] K = (([(.box true 64 (.agg [(.sl 1 111 0 dn), (.bool off), (.bool cut), (.int .i64 whole), (.int .i64 kept), (.int .i64 writes)])), (.row true 111 secs)] : List Blk).length = 2 ∧ B25 uat many dn off cut whole kept writes secs (fun z0 z1 z2 z3 z4 z5 z6 z7 z8 => K [(.box true 64 (.agg [(.sl 1 111 0 z2), (.bool z3), (.bool z4), (.int .i64 z5), (.int .i64 z6), (.int .i64 z7)])), (.row true 111 z8)] [(.list 5 z0), (.int .i64 z1)])) := by kernel_rfl
theorem W25_of (hT : AllSound Try.prog pvT pvG T25) : Sound Try.prog pvT pvG 25 W25 := Sound.weak (evF_sound (C := C25) (Base.of pvT_fits pvT_sized pvT_eq hT pvMixed pvIt_ok) Try.func25 (LoopsOk.of (C := C25) (fn := Try.f25) (l := [codeOf Try.f25 [1, 1, 0, 1, 0, 0]]) (g := []) (by kernel_rfl) rfl (by kernel_rfl) ⟨Q25_5_ok, trivial⟩ (RestOk.all rfl _) trivial) (evF_to (C := C25) (fun bs t K h0 => by
    unfold P25 at h0
    obtain ⟨r2, rfl, h2⟩ := pI h0
    obtain ⟨uat, r4, rfl, h4⟩ := iI h2
    obtain ⟨many, r6, rfl, h6⟩ := iI h4
    obtain ⟨rfl, h7⟩ := nilK_inv h6
    obtain ⟨r10, r8, rfl, h10⟩ := bA h7
    obtain ⟨dn, r12, rfl, h12⟩ := zI h10
    obtain ⟨off, r14, rfl, h14⟩ := bI h12
    obtain ⟨cut, r16, rfl, h16⟩ := bI h14
    obtain ⟨whole, r18, rfl, h18⟩ := iI h16
    obtain ⟨kept, r20, rfl, h20⟩ := iI h18
    obtain ⟨writes, r22, rfl, h22⟩ := iI h20
    obtain ⟨rfl, h23⟩ := nilK_inv h22
    obtain ⟨secs, r24, rfl, h25⟩ := bR h23
    obtain ⟨rfl, h26⟩ := bNilK_inv h25
    have h := h26
    refine ⟨_, _, rfl, rfl, ?_⟩
    rw [B25_eq uat many dn off cut whole kept writes secs K]
    exact ⟨rfl, h⟩))) _
end Pv

namespace Pv
open Go Go.Proofs

theorem S56_5_eq (n2 : Int) (out8n : Nat) (t26 : Int) (t27 : Int) (x0 : List PV) (G : Ex → St → Prop) : evC C56 (codeOf Try.f56 [1, 1, 1, 0, 1, 0, 0]) (mkSt (skU 2 ((.int .u64 n2) :: skU 5 ((.sl 0 5 0 out8n) :: skU 17 ((.int .i64 t26) :: (.int .i64 t27) :: skU 12 [])))) [(.row true 5 x0)]) G = S56_5 n2 t26 out8n t27 x0 (fun out8n t27 x0 => G .normal (mkSt (skU 2 ((.int .u64 n2) :: skU 5 ((.sl 0 5 0 out8n) :: skU 17 ((.int .i64 t26) :: (.int .i64 t27) :: skU 12 [])))) [(.row true 5 x0)])) (fun z1 z3 z4 => G (.exit 0) (mkSt (skU 2 ((.int .u64 n2) :: skU 5 ((.sl 0 5 0 z1) :: skU 17 ((.int .i64 t26) :: (.int .i64 z3) :: skU 12 [])))) [(.row true 5 z4)])) := by kernel_rfl
theorem R56_5_eq (n2 : Int) (t26 : Int) (G : Ex → St → Prop) : ∀ (n : Nat) (out8n : Nat) (t27 : Int) (x0 : List PV), evLoop C56 (codeOf Try.f56 [1, 1, 1, 0, 1, 0, 0]) n (mkSt (skU 2 ((.int .u64 n2) :: skU 5 ((.sl 0 5 0 out8n) :: skU 17 ((.int .i64 t26) :: (.int .i64 t27) :: skU 12 [])))) [(.row true 5 x0)]) G = R56_5 n2 t26 (fun z1 z3 z4 => G (.exit 0) (mkSt (skU 2 ((.int .u64 n2) :: skU 5 ((.sl 0 5 0 z1) :: skU 17 ((.int .i64 t26) :: (.int .i64 z3) :: skU 12 [])))) [(.row true 5 z4)])) n out8n t27 x0
  | 0, _, _, _ => rfl
  | n + 1, out8n, t27, x0 => (S56_5_eq n2 out8n t26 t27 x0 (fun e s => match e with | .normal => evLoop C56 (codeOf Try.f56 [1, 1, 1, 0, 1, 0, 0]) n s G | .exit id => G (.exit id) s | .ret => G .ret s)).trans (congrArg (fun q => S56_5 n2 t26 out8n t27 x0 q (fun z1 z3 z4 => G (.exit 0) (mkSt (skU 2 ((.int .u64 n2) :: skU 5 ((.sl 0 5 0 z1) :: skU 17 ((.int .i64 t26) :: (.int .i64 z3) :: skU 12 [])))) [(.row true 5 z4)]))) (funext fun out8n => funext fun t27 => funext fun x0 => R56_5_eq n2 t26 G n out8n t27 x0))
theorem R56_5_eqK (n2 : Int) (t26 : Int) (K : Ex → List PV → List Blk → Prop) (n : Nat) (out8n : Nat) (t27 : Int) (x0 : List PV) : R56_5 n2 t26 (fun z1 z3 z4 => K (.exit 0) (skU 2 ((.int .u64 n2) :: skU 5 ((.sl 0 5 0 z1) :: skU 17 ((.int .i64 t26) :: (.int .i64 z3) :: skU 12 [])))) [(.row true 5 z4)]) n out8n t27 x0 = evLoop C56 (codeOf Try.f56 [1, 1, 1, 0, 1, 0, 0]) n (mkSt (skU 2 ((.int .u64 n2) :: skU 5 ((.sl 0 5 0 out8n) :: skU 17 ((.int .i64 t26) :: (.int .i64 t27) :: skU 12 [])))) [(.row true 5 x0)]) (onSt K) := ((R56_5_eq n2 t26 (onSt K) n out8n t27 x0).trans (by kernel_rfl)).symm
theorem Q56_5_ok : LoopOk C56 (codeOf Try.f56 [1, 1, 1, 0, 1, 0, 0]) := LoopOk.of (l := Q56_5) (by kernel_rfl) (fun t bs K h0 => by
    unfold Q56_5 at h0
    obtain ⟨r1, rfl, h1⟩ := skipU_inv h0
    obtain ⟨n2, r3, rfl, h3⟩ := iI h1
    obtain ⟨r4, rfl, h4⟩ := skipU_inv h3
    obtain ⟨out8n, r6, rfl, h6⟩ := zI h4
    obtain ⟨r7, rfl, h7⟩ := skipU_inv h6
    obtain ⟨t26, r9, rfl, h9⟩ := iI h7
    obtain ⟨t27, r11, rfl, h11⟩ := iI h9
    obtain ⟨r12, rfl, h12⟩ := skipU_inv h11
    obtain ⟨rfl, h13⟩ := nilK_inv h12
    obtain ⟨x0, r14, rfl, h15⟩ := bR h13
    obtain ⟨rfl, h16⟩ := bNilK_inv h15
    have h := h16
    obtain ⟨n, hn⟩ := h
    refine ⟨n, ?_⟩
    rw [← R56_5_eqK n2 t26 K n out8n t27 x0]
    exact hn)
theorem J56_3_eq (b0 : List PV) (w1 : Int) (n2 : Int) (K : Ex → List PV → List Blk → Prop) : J56_3 b0 w1 n2 (fun z0 z2 => K .ret (skU 6 ((.sl 0 5 0 z0) :: (.int .i64 0) :: skU 32 [])) [(.row true 5 z2)]) = evC C56 (codeOf Try.f56 [1, 1]) (mkSt ((.list 5 b0) :: (.int .i64 w1) :: (.int .u64 n2) :: skU 37 []) []) (onSt K) := by kernel_rfl
theorem Q56_3_ok : RestOk C56 (codeOf Try.f56 [1, 1]) := RestOk.to (l := Q56_3) (by kernel_rfl) (by
    intro t bs K h0
    unfold Q56_3 at h0
    obtain ⟨b0, r2, rfl, h2⟩ := lI h0
    obtain ⟨w1, r4, rfl, h4⟩ := iI h2
    obtain ⟨n2, r6, rfl, h6⟩ := iI h4
    obtain ⟨r7, rfl, h7⟩ := skipU_inv h6
    obtain ⟨rfl, h8⟩ := nilK_inv h7
    obtain ⟨rfl, h9⟩ := bNilK_inv h8
    have h := h9
    refine ⟨_, _, rfl, rfl, ?_⟩
    rw [← J56_3_eq b0 w1 n2 K]
    exact h)
theorem B56_eq (b0 : List PV) (w1 : Int) (n2 : Int) (K : List Blk → List PV → Prop) : evF C56 Try.f56 [] [(.list 5 b0), (.int .i64 w1), (.int .u64 n2)] K = (([] : List Blk).length = 0 ∧ B56 b0 w1 n2 (fun z0 z1 z2 => K [(.row true 5 z2)] [(.sl 0 5 0 z0), (.int .i64 z1)])) := by kernel_rfl
theorem W56_of (hT : AllSound Try.prog pvT pvG T56) : Sound Try.prog pvT pvG 56 W56 := Sound.weak (evF_sound (C := C56) (Base.of pvT_fits pvT_sized pvT_eq hT pvMixed pvIt_ok) Try.func56 (LoopsOk.of (C := C56) (fn := Try.f56) (l := [codeOf Try.f56 [1, 1, 1, 0, 1, 0, 0]]) (r := [codeOf Try.f56 [1], codeOf Try.f56 [1, 1], codeOf Try.f56 [1, 0, 1], codeOf Try.f56 [1, 0, 1, 0, 1], codeOf Try.f56 [1, 1, 1], codeOf Try.f56 [1, 1, 1, 1], codeOf Try.f56 [1, 1, 1, 0, 1], codeOf Try.f56 [1, 1, 1, 0, 1, 0, 0, 1], codeOf Try.f56 [1, 1, 1, 0, 1, 0, 0, 1, 1], codeOf Try.f56 [1, 1, 1, 0, 1, 0, 0, 1, 1, 1], codeOf Try.f56 [1, 1, 1, 0, 1, 0, 0, 1, 1, 0, 0, 1], codeOf Try.f56 [1, 1, 1, 1, 1]]) (g := []) (by kernel_rfl) (by kernel_rfl) (by kernel_rfl) ⟨Q56_5_ok, trivial⟩ ⟨(RestOk.none (by kernel_rfl)), ⟨Q56_3_ok, ⟨(RestOk.none (by kernel_rfl)), ⟨(RestOk.none (by kernel_rfl)), ⟨(RestOk.none (by kernel_rfl)), ⟨(RestOk.none (by kernel_rfl)), ⟨(RestOk.none (by kernel_rfl)), ⟨(RestOk.none (by kernel_rfl)), ⟨(RestOk.none (by kernel_rfl)), ⟨(RestOk.none (by kernel_rfl)), ⟨(RestOk.none (by kernel_rfl)), ⟨(RestOk.none (by kernel_rfl)), trivial⟩⟩⟩⟩⟩⟩⟩⟩⟩⟩⟩⟩ trivial) (evF_to (C := C56) (fun bs t K h0 => by
    unfold P56 at h0
    obtain ⟨b0, r2, rfl, h2⟩ := lI h0
    obtain ⟨w1, r4, rfl, h4⟩ := iI h2
    obtain ⟨n2, r6, rfl, h6⟩ := iI h4
    obtain ⟨rfl, h7⟩ := nilK_inv h6
    obtain ⟨rfl, h8⟩ := bNilK_inv h7
    have h := h8
    refine ⟨_, _, rfl, rfl, ?_⟩
    rw [B56_eq b0 w1 n2 K]
    exact ⟨rfl, h⟩))) _
end Pv

namespace Pv
open Go Go.Proofs

theorem S33_3_eq (pairs0 : List PV) (b3n : Nat) (t12 : List PV) (t13 : Int) (t14 : Int) (x0 : List PV) (G : Ex → St → Prop) : evC C33 (codeOf Try.f33 [1, 1, 0, 1, 0, 0]) (mkSt ((.dmap 9 77 pairs0) :: skU 2 ((.sl 0 5 0 b3n) :: skU 8 ((.list 9 t12) :: (.int .i64 t13) :: (.int .i64 t14) :: skU 15 []))) [(.row true 5 x0)]) G = S33_3 pairs0 t12 t13 b3n t14 x0 (fun b3n t14 x0 => G .normal (mkSt ((.dmap 9 77 pairs0) :: skU 2 ((.sl 0 5 0 b3n) :: skU 8 ((.list 9 t12) :: (.int .i64 t13) :: (.int .i64 t14) :: skU 15 []))) [(.row true 5 x0)])) (fun z1 z4 z5 => G (.exit 0) (mkSt ((.dmap 9 77 pairs0) :: skU 2 ((.sl 0 5 0 z1) :: skU 8 ((.list 9 t12) :: (.int .i64 t13) :: (.int .i64 z4) :: skU 15 []))) [(.row true 5 z5)])) := by kernel_rfl
theorem R33_3_eq (pairs0 : List PV) (t12 : List PV) (t13 : Int) (G : Ex → St → Prop) : ∀ (n : Nat) (b3n : Nat) (t14 : Int) (x0 : List PV), evLoop C33 (codeOf Try.f33 [1, 1, 0, 1, 0, 0]) n (mkSt ((.dmap 9 77 pairs0) :: skU 2 ((.sl 0 5 0 b3n) :: skU 8 ((.list 9 t12) :: (.int .i64 t13) :: (.int .i64 t14) :: skU 15 []))) [(.row true 5 x0)]) G = R33_3 pairs0 t12 t13 (fun z1 z4 z5 => G (.exit 0) (mkSt ((.dmap 9 77 pairs0) :: skU 2 ((.sl 0 5 0 z1) :: skU 8 ((.list 9 t12) :: (.int .i64 t13) :: (.int .i64 z4) :: skU 15 []))) [(.row true 5 z5)])) n b3n t14 x0
  | 0, _, _, _ => rfl
  | n + 1, b3n, t14, x0 => (S33_3_eq pairs0 b3n t12 t13 t14 x0 (fun e s => match e with | .normal => evLoop C33 (codeOf Try.f33 [1, 1, 0, 1, 0, 0]) n s G | .exit id => G (.exit id) s | .ret => G .ret s)).trans (congrArg (fun q => S33_3 pairs0 t12 t13 b3n t14 x0 q (fun z1 z4 z5 => G (.exit 0) (mkSt ((.dmap 9 77 pairs0) :: skU 2 ((.sl 0 5 0 z1) :: skU 8 ((.list 9 t12) :: (.int .i64 t13) :: (.int .i64 z4) :: skU 15 []))) [(.row true 5 z5)]))) (funext fun b3n => funext fun t14 => funext fun x0 => R33_3_eq pairs0 t12 t13 G n b3n t14 x0))
theorem R33_3_eqK (pairs0 : List PV) (t12 : List PV) (t13 : Int) (K : Ex → List PV → List Blk → Prop) (n : Nat) (b3n : Nat) (t14 : Int) (x0 : List PV) : R33_3 pairs0 t12 t13 (fun z1 z4 z5 => K (.exit 0) ((.dmap 9 77 pairs0) :: skU 2 ((.sl 0 5 0 z1) :: skU 8 ((.list 9 t12) :: (.int .i64 t13) :: (.int .i64 z4) :: skU 15 []))) [(.row true 5 z5)]) n b3n t14 x0 = evLoop C33 (codeOf Try.f33 [1, 1, 0, 1, 0, 0]) n (mkSt ((.dmap 9 77 pairs0) :: skU 2 ((.sl 0 5 0 b3n) :: skU 8 ((.list 9 t12) :: (.int .i64 t13) :: (.int .i64 t14) :: skU 15 []))) [(.row true 5 x0)]) (onSt K) := ((R33_3_eq pairs0 t12 t13 (onSt K) n b3n t14 x0).trans (by kernel_rfl)).symm
theorem Q33_3_ok : LoopOk C33 (codeOf Try.f33 [1, 1, 0, 1, 0, 0]) := LoopOk.of (l := Q33_3) (by kernel_rfl) (fun t bs K h0 => by
    unfold Q33_3 at h0
    obtain ⟨r1, r2, rfl, h1⟩ := consK_inv h0
    obtain ⟨pairs0, rfl, h2⟩ := dmapK_inv h1
    obtain ⟨r3, rfl, h3⟩ := skipU_inv h2
    obtain ⟨b3n, r5, rfl, h5⟩ := zI h3
    obtain ⟨r6, rfl, h6⟩ := skipU_inv h5
    obtain ⟨t12, r8, rfl, h8⟩ := lI h6
    obtain ⟨t13, r10, rfl, h10⟩ := iI h8
    obtain ⟨t14, r12, rfl, h12⟩ := iI h10
    obtain ⟨r13, rfl, h13⟩ := skipU_inv h12
    obtain ⟨rfl, h14⟩ := nilK_inv h13
    obtain ⟨x0, r15, rfl, h16⟩ := bR h14
    obtain ⟨rfl, h17⟩ := bNilK_inv h16
    have h := h17
    obtain ⟨n, hn⟩ := h
    refine ⟨n, ?_⟩
    rw [← R33_3_eqK pairs0 t12 t13 K n b3n t14 x0]
    exact hn)
theorem B33_eq (pairs0 : List PV) (K : List Blk → List PV → Prop) : evF C33 Try.f33 [] [(.dmap 9 77 pairs0)] K = (([] : List Blk).length = 0 ∧ B33 pairs0 (fun z0 => K [] [(.list 5 z0)])) := by kernel_rfl
theorem W33_of (hT : AllSound Try.prog pvT pvG T33) : Sound Try.prog pvT pvG 33 W33 := Sound.weak (evF_sound (C := C33) (Base.of pvT_fits pvT_sized pvT_eq hT pvMixed pvIt_ok) Try.func33 (LoopsOk.of (C := C33) (fn := Try.f33) (l := [codeOf Try.f33 [1, 1, 0, 1, 0, 0]]) (g := []) (by kernel_rfl) rfl (by kernel_rfl) ⟨Q33_3_ok, trivial⟩ (RestOk.all rfl _) trivial) (evF_to (C := C33) (fun bs t K h0 => by
    unfold P33 at h0
    obtain ⟨r1, r2, rfl, h1⟩ := consK_inv h0
    obtain ⟨pairs0, rfl, h2⟩ := dmapK_inv h1
    obtain ⟨rfl, h3⟩ := nilK_inv h2
    obtain ⟨rfl, h4⟩ := bNilK_inv h3
    have h := h4
    refine ⟨_, _, rfl, rfl, ?_⟩
    rw [B33_eq pairs0 K]
    exact ⟨rfl, h⟩))) _
end Pv

namespace Pv
open Go Go.Proofs

theorem J5_4_eq (ae : Nat) (af : Bool) (ag : Bool) (ah : Int) (ai : Int) (aj : Int) (aa : Int) (ab : Int) (ac : Int) (ad : Int) (ak : Int) (al : Int) (am : Bool) (x2 : List PV) (x3 : List PV) (K : Ex → List PV → List Blk → Prop) : J5_4 ae af ag ah ai aj aa ab ac ad ak al am x2 x3 (fun z0 => K .ret ((.bool z0) :: skU 51 []) []) = evC C5 (codeOf Try.f5 [1, 1, 1]) (mkSt (skU 1 ((.ptr 0 64 0 []) :: (.ptr 1 57 0 []) :: skU 49 [])) [(.box true 64 (.agg [(.sl 2 111 0 ae), (.bool af), (.bool ag), (.int .i64 ah), (.int .i64 ai), (.int .i64 aj)])), (.box true 57 (.agg [(.ptr 0 64 0 []), (.mapr 3), (.agg [(.int .u64 aa), (.int .i64 ab), (.int .i64 ac), (.int .u32 ad)]), (.int .i64 ak), (.int .u64 al), (.bool am)])), (.row true 111 x2), (.map false 9 77 x3)]) (onSt K) := by kernel_rfl
theorem Q5_4_ok : RestOk C5 (codeOf Try.f5 [1, 1, 1]) := RestOk.to (l := Q5_4) (by kernel_rfl) (by
    intro t bs K h0
    unfold Q5_4 at h0
    obtain ⟨r1, rfl, h1⟩ := skipU_inv h0
    obtain ⟨r3, rfl, h3⟩ := pI h1
    obtain ⟨r5, rfl, h5⟩ := pI h3
    obtain ⟨r6, rfl, h6⟩ := skipU_inv h5
    obtain ⟨rfl, h7⟩ := nilK_inv h6
    obtain ⟨r10, r8, rfl, h10⟩ := bA h7
    obtain ⟨ae, r12, rfl, h12⟩ := zI h10
    obtain ⟨af, r14, rfl, h14⟩ := bI h12
    obtain ⟨ag, r16, rfl, h16⟩ := bI h14
    obtain ⟨ah, r18, rfl, h18⟩ := iI h16
    obtain ⟨ai, r20, rfl, h20⟩ := iI h18
    obtain ⟨aj, r22, rfl, h22⟩ := iI h20
    obtain ⟨rfl, h23⟩ := nilK_inv h22
    obtain ⟨r26, r24, rfl, h26⟩ := bA h23
    obtain ⟨r28, rfl, h28⟩ := pI h26
    obtain ⟨r30, rfl, h30⟩ := mI h28
    obtain ⟨r33, r32, rfl, h32⟩ := aI h30
    obtain ⟨aa, r35, rfl, h34⟩ := iI h32
    obtain ⟨ab, r37, rfl, h36⟩ := iI h34
    obtain ⟨ac, r39, rfl, h38⟩ := iI h36
    obtain ⟨ad, r41, rfl, h40⟩ := iI h38
    obtain ⟨rfl, h41⟩ := nilK_inv h40
    obtain ⟨ak, r43, rfl, h43⟩ := iI h41
    obtain ⟨al, r45, rfl, h45⟩ := iI h43
    obtain ⟨am, r47, rfl, h47⟩ := bI h45
    obtain ⟨rfl, h48⟩ := nilK_inv h47
    obtain ⟨x2, r49, rfl, h50⟩ := bR h48
    obtain ⟨x3, r51, rfl, h52⟩ := bM h50
    obtain ⟨rfl, h53⟩ := bNilK_inv h52
    have h := h53
    refine ⟨_, _, rfl, rfl, ?_⟩
    rw [← J5_4_eq ae af ag ah ai aj aa ab ac ad ak al am x2 x3 K]
    exact h)
theorem B5_eq (K : List Blk → List PV → Prop) : evF C5 Try.f5 [] [] K = (([] : List Blk).length = 0 ∧ B5  (fun z0 => K [] [(.bool z0)])) := by kernel_rfl
theorem W5_of (hT : AllSound Try.prog pvT pvG T5) : Sound Try.prog pvT pvG 5 W5 := Sound.weak (evF_sound (C := C5) (Base.of pvT_fits pvT_sized pvT_eq hT pvMixed pvIt_ok) Try.func5 (LoopsOk.of (C := C5) (fn := Try.f5) (l := []) (r := [codeOf Try.f5 [1], codeOf Try.f5 [1, 1], codeOf Try.f5 [1, 1, 1], codeOf Try.f5 [1, 1, 0, 1], codeOf Try.f5 [1, 1, 0, 1, 0, 1], codeOf Try.f5 [1, 1, 1, 1], codeOf Try.f5 [1, 1, 1, 1, 1]]) (g := []) (by kernel_rfl) (by kernel_rfl) (by kernel_rfl) trivial ⟨(RestOk.none (by kernel_rfl)), ⟨(RestOk.none (by kernel_rfl)), ⟨Q5_4_ok, ⟨(RestOk.none (by kernel_rfl)), ⟨(RestOk.none (by kernel_rfl)), ⟨(RestOk.none (by kernel_rfl)), ⟨(RestOk.none (by kernel_rfl)), trivial⟩⟩⟩⟩⟩⟩⟩ trivial) (evF_to (C := C5) (fun bs t K h0 => by
    unfold P5 at h0
    obtain ⟨rfl, h1⟩ := nilK_inv h0
    obtain ⟨rfl, h2⟩ := bNilK_inv h1
    have h := h2
    refine ⟨_, _, rfl, rfl, ?_⟩
    rw [B5_eq  K]
    exact ⟨rfl, h⟩))) _
end Pv

namespace Pv
open Go Go.Proofs

theorem B16_eq (snumber : Int) (sfirst : Int) (slong : Int) (ssum : Int) (place : Int) (top : Int) (soff : Bool) (dn : Nat) (off : Bool) (cut : Bool) (whole : Int) (kept : Int) (writes : Int) (pairs : List PV) (secs : List PV) (K : List Blk → List PV → Prop) : evF C16 Try.f16 [(.box true 57 (.agg [(.ptr 1 64 0 []), (.mapr 2), (.agg [(.int .u64 snumber), (.int .i64 sfirst), (.int .i64 slong), (.int .u32 ssum)]), (.int .i64 place), (.int .u64 top), (.bool soff)])), (.box true 64 (.agg [(.sl 3 111 0 dn), (.bool off), (.bool cut), (.int .i64 whole), (.int .i64 kept), (.int .i64 writes)])), (.map false 9 77 pairs), (.row true 111 secs)] [(.ptr 0 57 0 [])] K = (([(.box true 57 (.agg [(.ptr 1 64 0 []), (.mapr 2), (.agg [(.int .u64 snumber), (.int .i64 sfirst), (.int .i64 slong), (.int .u32 ssum)]), (.int .i64 place), (.int .u64 top), (.bool soff)])), (.box true 64 (.agg [(.sl 3 111 0 dn), (.bool off), (.bool cut), (.int .i64 whole), (.int .i64 kept), (.int .i64 writes)])), (.map false 9 77 pairs), (.row true 111 secs)] : List Blk).length = 4 ∧ B16 snumber sfirst slong ssum place top soff dn off cut whole kept writes pairs secs (fun z0 z1 z2 z3 z4 z5 z6 z7 z8 z9 z10 z11 z12 z13 z14 z15 => K [(.box true 57 (.agg [(.ptr 1 64 0 []), (.mapr 2), (.agg [(.int .u64 z1), (.int .i64 z2), (.int .i64 z3), (.int .u32 z4)]), (.int .i64 z5), (.int .u64 z6), (.bool z7)])), (.box true 64 (.agg [(.sl 3 111 0 z8), (.bool z9), (.bool z10), (.int .i64 z11), (.int .i64 z12), (.int .i64 z13)])), (.map false 9 77 z14), (.row true 111 z15)] [(.list 9 z0)])) := by kernel_rfl
theorem W16_of (hT : AllSound Try.prog pvT pvG T16) : Sound Try.prog pvT pvG 16 W16 := Sound.weak (evF_sound (C := C16) (Base.of pvT_fits pvT_sized pvT_eq hT pvMixed pvIt_ok) Try.func16 (LoopsOk.of (C := C16) (fn := Try.f16) (l := []) (g := []) (by kernel_rfl) rfl (by kernel_rfl) trivial (RestOk.all rfl _) trivial) (evF_to (C := C16) (fun bs t K h0 => by
    unfold P16 at h0
    obtain ⟨r2, rfl, h2⟩ := pI h0
    obtain ⟨rfl, h3⟩ := nilK_inv h2
    obtain ⟨r6, r4, rfl, h6⟩ := bA h3
    obtain ⟨r8, rfl, h8⟩ := pI h6
    obtain ⟨r10, rfl, h10⟩ := mI h8
    obtain ⟨r13, r12, rfl, h12⟩ := aI h10
    obtain ⟨snumber, r15, rfl, h14⟩ := iI h12
    obtain ⟨sfirst, r17, rfl, h16⟩ := iI h14
    obtain ⟨slong, r19, rfl, h18⟩ := iI h16
    obtain ⟨ssum, r21, rfl, h20⟩ := iI h18
    obtain ⟨rfl, h21⟩ := nilK_inv h20
    obtain ⟨place, r23, rfl, h23⟩ := iI h21
    obtain ⟨top, r25, rfl, h25⟩ := iI h23
    obtain ⟨soff, r27, rfl, h27⟩ := bI h25
    obtain ⟨rfl, h28⟩ := nilK_inv h27
    obtain ⟨r31, r29, rfl, h31⟩ := bA h28
    obtain ⟨dn, r33, rfl, h33⟩ := zI h31
    obtain ⟨off, r35, rfl, h35⟩ := bI h33
    obtain ⟨cut, r37, rfl, h37⟩ := bI h35
    obtain ⟨whole, r39, rfl, h39⟩ := iI h37
    obtain ⟨kept, r41, rfl, h41⟩ := iI h39
    obtain ⟨writes, r43, rfl, h43⟩ := iI h41
    obtain ⟨rfl, h44⟩ := nilK_inv h43
    obtain ⟨pairs, r45, rfl, h46⟩ := bM h44
    obtain ⟨secs, r47, rfl, h48⟩ := bR h46
    obtain ⟨rfl, h49⟩ := bNilK_inv h48
    have h := h49
    refine ⟨_, _, rfl, rfl, ?_⟩
    rw [B16_eq snumber sfirst slong ssum place top soff dn off cut whole kept writes pairs secs K]
    exact ⟨rfl, h⟩))) _
end Pv

namespace Pv
open Go Go.Proofs

theorem B44_eq (uat : Int) (many : Int) (dn : Nat) (off : Bool) (cut : Bool) (whole : Int) (kept : Int) (writes : Int) (secs : List PV) (K : List Blk → List PV → Prop) : evF C44 Try.f44 [(.box true 64 (.agg [(.sl 1 111 0 dn), (.bool off), (.bool cut), (.int .i64 whole), (.int .i64 kept), (.int .i64 writes)])), (.row true 111 secs)] [(.ptr 0 64 0 []), (.int .i64 uat), (.int .i64 many)] K = (([(.box true 64 (.agg [(.sl 1 111 0 dn), (.bool off), (.bool cut), (.int .i64 whole), (.int .i64 kept), (.int .i64 writes)])), (.row true 111 secs)] : List Blk).length = 2 ∧ B44 uat many dn off cut whole kept writes secs (fun z0 z1 z2 z3 z4 z5 z6 z7 => K [(.box true 64 (.agg [(.sl 1 111 0 z1), (.bool z2), (.bool z3), (.int .i64 z4), (.int .i64 z5), (.int .i64 z6)])), (.row true 111 z7)] [(.int .i64 z0)])) := by kernel_rfl
theorem W44_of (hT : AllSound Try.prog pvT pvG T44) : Sound Try.prog pvT pvG 44 W44 := Sound.weak (evF_sound (C := C44) (Base.of pvT_fits pvT_sized pvT_eq hT pvMixed pvIt_ok) Try.func44 (LoopsOk.of (C := C44) (fn := Try.f44) (l := []) (g := []) (by kernel_rfl) rfl (by kernel_rfl) trivial (RestOk.all rfl _) trivial) (evF_to (C := C44) (fun bs t K h0 => by
    unfold P44 at h0
    obtain ⟨r2, rfl, h2⟩ := pI h0
    obtain ⟨uat, r4, rfl, h4⟩ := iI h2
    obtain ⟨many, r6, rfl, h6⟩ := iI h4
    obtain ⟨rfl, h7⟩ := nilK_inv h6
    obtain ⟨r10, r8, rfl, h10⟩ := bA h7
    obtain ⟨dn, r12, rfl, h12⟩ := zI h10
    obtain ⟨off, r14, rfl, h14⟩ := bI h12
    obtain ⟨cut, r16, rfl, h16⟩ := bI h14
    obtain ⟨whole, r18, rfl, h18⟩ := iI h16
    obtain ⟨kept, r20, rfl, h20⟩ := iI h18
    obtain ⟨writes, r22, rfl, h22⟩ := iI h20
    obtain ⟨rfl, h23⟩ := nilK_inv h22
    obtain ⟨secs, r24, rfl, h25⟩ := bR h23
    obtain ⟨rfl, h26⟩ := bNilK_inv h25
    have h := h26
    refine ⟨_, _, rfl, rfl, ?_⟩
    rw [B44_eq uat many dn off cut whole kept writes secs K]
    exact ⟨rfl, h⟩))) _
end Pv

namespace Pv
open Go Go.Proofs

theorem B23_eq (dn : Nat) (off : Bool) (cut : Bool) (whole : Int) (kept : Int) (writes : Int) (secs : List PV) (K : List Blk → List PV → Prop) : evF C23 Try.f23 [(.box true 64 (.agg [(.sl 1 111 0 dn), (.bool off), (.bool cut), (.int .i64 whole), (.int .i64 kept), (.int .i64 writes)])), (.row true 111 secs)] [(.ptr 0 64 0 [])] K = (([(.box true 64 (.agg [(.sl 1 111 0 dn), (.bool off), (.bool cut), (.int .i64 whole), (.int .i64 kept), (.int .i64 writes)])), (.row true 111 secs)] : List Blk).length = 2 ∧ B23 dn off cut whole kept writes secs (fun z0 z1 z2 z3 z4 z5 z6 z7 => K [(.box true 64 (.agg [(.sl 1 111 0 z1), (.bool z2), (.bool z3), (.int .i64 z4), (.int .i64 z5), (.int .i64 z6)])), (.row true 111 z7)] [(.int .i64 z0)])) := by kernel_rfl
theorem W23_of (hT : AllSound Try.prog pvT pvG T23) : Sound Try.prog pvT pvG 23 W23 := Sound.weak (evF_sound (C := C23) (Base.of pvT_fits pvT_sized pvT_eq hT pvMixed pvIt_ok) Try.func23 (LoopsOk.of (C := C23) (fn := Try.f23) (l := []) (g := []) (by kernel_rfl) rfl (by kernel_rfl) trivial (RestOk.all rfl _) trivial) (evF_to (C := C23) (fun bs t K h0 => by
    unfold P23 at h0
    obtain ⟨r2, rfl, h2⟩ := pI h0
    obtain ⟨rfl, h3⟩ := nilK_inv h2
    obtain ⟨r6, r4, rfl, h6⟩ := bA h3
    obtain ⟨dn, r8, rfl, h8⟩ := zI h6
    obtain ⟨off, r10, rfl, h10⟩ := bI h8
    obtain ⟨cut, r12, rfl, h12⟩ := bI h10
    obtain ⟨whole, r14, rfl, h14⟩ := iI h12
    obtain ⟨kept, r16, rfl, h16⟩ := iI h14
    obtain ⟨writes, r18, rfl, h18⟩ := iI h16
    obtain ⟨rfl, h19⟩ := nilK_inv h18
    obtain ⟨secs, r20, rfl, h21⟩ := bR h19
    obtain ⟨rfl, h22⟩ := bNilK_inv h21
    have h := h22
    refine ⟨_, _, rfl, rfl, ?_⟩
    rw [B23_eq dn off cut whole kept writes secs K]
    exact ⟨rfl, h⟩))) _
end Pv

namespace Pv
open Go Go.Proofs

theorem B18_eq (dn : Nat) (off : Bool) (cut : Bool) (whole : Int) (kept : Int) (writes : Int) (secs : List PV) (K : List Blk → List PV → Prop) : evF C18 Try.f18 [(.box true 64 (.agg [(.sl 1 111 0 dn), (.bool off), (.bool cut), (.int .i64 whole), (.int .i64 kept), (.int .i64 writes)])), (.row true 111 secs)] [(.ptr 0 64 0 [])] K = (([(.box true 64 (.agg [(.sl 1 111 0 dn), (.bool off), (.bool cut), (.int .i64 whole), (.int .i64 kept), (.int .i64 writes)])), (.row true 111 secs)] : List Blk).length = 2 ∧ B18 dn off cut whole kept writes secs (fun z0 z1 z2 z3 z4 z5 z6 z7 => K [(.box true 64 (.agg [(.sl 1 111 0 z1), (.bool z2), (.bool z3), (.int .i64 z4), (.int .i64 z5), (.int .i64 z6)])), (.row true 111 z7)] [(.int .i64 z0)])) := by kernel_rfl
theorem W18_of (hT : AllSound Try.prog pvT pvG T18) : Sound Try.prog pvT pvG 18 W18 := Sound.weak (evF_sound (C := C18) (Base.of pvT_fits pvT_sized pvT_eq hT pvMixed pvIt_ok) Try.func18 (LoopsOk.of (C := C18) (fn := Try.f18) (l := []) (g := []) (by kernel_rfl) rfl (by kernel_rfl) trivial (RestOk.all rfl _) trivial) (evF_to (C := C18) (fun bs t K h0 => by
    unfold P18 at h0
    obtain ⟨r2, rfl, h2⟩ := pI h0
    obtain ⟨rfl, h3⟩ := nilK_inv h2
    obtain ⟨r6, r4, rfl, h6⟩ := bA h3
    obtain ⟨dn, r8, rfl, h8⟩ := zI h6
    obtain ⟨off, r10, rfl, h10⟩ := bI h8
    obtain ⟨cut, r12, rfl, h12⟩ := bI h10
    obtain ⟨whole, r14, rfl, h14⟩ := iI h12
    obtain ⟨kept, r16, rfl, h16⟩ := iI h14
    obtain ⟨writes, r18, rfl, h18⟩ := iI h16
    obtain ⟨rfl, h19⟩ := nilK_inv h18
    obtain ⟨secs, r20, rfl, h21⟩ := bR h19
    obtain ⟨rfl, h22⟩ := bNilK_inv h21
    have h := h22
    refine ⟨_, _, rfl, rfl, ?_⟩
    rw [B18_eq dn off cut whole kept writes secs K]
    exact ⟨rfl, h⟩))) _
end Pv

namespace Pv
open Go Go.Proofs

theorem B47_eq (n : Int) (rb : List PV) (made : Bool) (torn : Bool) (K : List Blk → List PV → Prop) : evF C47 Try.f47 [(.box true 132 (.agg [(.list 5 rb), (.bool made), (.bool torn)]))] [(.ptr 0 132 0 []), (.int .i64 n)] K = (([(.box true 132 (.agg [(.list 5 rb), (.bool made), (.bool torn)]))] : List Blk).length = 1 ∧ B47 n rb made torn (fun z0 z1 z2 z3 => K [(.box true 132 (.agg [(.list 5 z1), (.bool z2), (.bool z3)]))] [(.list 5 z0)])) := by kernel_rfl
theorem W47_of (hT : AllSound Try.prog pvT pvG T47) : Sound Try.prog pvT pvG 47 W47 := Sound.weak (evF_sound (C := C47) (Base.of pvT_fits pvT_sized pvT_eq hT pvMixed pvIt_ok) Try.func47 (LoopsOk.of (C := C47) (fn := Try.f47) (l := []) (g := []) (by kernel_rfl) rfl (by kernel_rfl) trivial (RestOk.all rfl _) trivial) (evF_to (C := C47) (fun bs t K h0 => by
    unfold P47 at h0
    obtain ⟨r2, rfl, h2⟩ := pI h0
    obtain ⟨n, r4, rfl, h4⟩ := iI h2
    obtain ⟨rfl, h5⟩ := nilK_inv h4
    obtain ⟨r8, r6, rfl, h8⟩ := bA h5
    obtain ⟨rb, r10, rfl, h10⟩ := lI h8
    obtain ⟨made, r12, rfl, h12⟩ := bI h10
    obtain ⟨torn, r14, rfl, h14⟩ := bI h12
    obtain ⟨rfl, h15⟩ := nilK_inv h14
    obtain ⟨rfl, h16⟩ := bNilK_inv h15
    have h := h16
    refine ⟨_, _, rfl, rfl, ?_⟩
    rw [B47_eq n rb made torn K]
    exact ⟨rfl, h⟩))) _
end Pv

namespace Pv
open Go Go.Proofs

theorem B52_eq (rb : List PV) (made : Bool) (torn : Bool) (K : List Blk → List PV → Prop) : evF C52 Try.f52 [(.box true 132 (.agg [(.list 5 rb), (.bool made), (.bool torn)]))] [(.ptr 0 132 0 [])] K = (([(.box true 132 (.agg [(.list 5 rb), (.bool made), (.bool torn)]))] : List Blk).length = 1 ∧ B52 rb made torn (fun z0 z1 z2 z3 => K [(.box true 132 (.agg [(.list 5 z1), (.bool z2), (.bool z3)]))] [(.bool z0)])) := by kernel_rfl
theorem W52_of (hT : AllSound Try.prog pvT pvG T52) : Sound Try.prog pvT pvG 52 W52 := Sound.weak (evF_sound (C := C52) (Base.of pvT_fits pvT_sized pvT_eq hT pvMixed pvIt_ok) Try.func52 (LoopsOk.of (C := C52) (fn := Try.f52) (l := []) (g := []) (by kernel_rfl) rfl (by kernel_rfl) trivial (RestOk.all rfl _) trivial) (evF_to (C := C52) (fun bs t K h0 => by
    unfold P52 at h0
    obtain ⟨r2, rfl, h2⟩ := pI h0
    obtain ⟨rfl, h3⟩ := nilK_inv h2
    obtain ⟨r6, r4, rfl, h6⟩ := bA h3
    obtain ⟨rb, r8, rfl, h8⟩ := lI h6
    obtain ⟨made, r10, rfl, h10⟩ := bI h8
    obtain ⟨torn, r12, rfl, h12⟩ := bI h10
    obtain ⟨rfl, h13⟩ := nilK_inv h12
    obtain ⟨rfl, h14⟩ := bNilK_inv h13
    have h := h14
    refine ⟨_, _, rfl, rfl, ?_⟩
    rw [B52_eq rb made torn K]
    exact ⟨rfl, h⟩))) _
end Pv

namespace Pv
open Go Go.Proofs

theorem B37_eq (m0 : List PV) (K : List Blk → List PV → Prop) : evF C37 Try.f37 [] [(.dmap 9 77 m0)] K = (([] : List Blk).length = 0 ∧ B37 m0 (fun z0 => K [(.box true 51 (.dmap 9 77 z0))] [(.fn 59 [(.ptr 0 51 0 [])])])) := by kernel_rfl
theorem W37_of (hT : AllSound Try.prog pvT pvG T37) : Sound Try.prog pvT pvG 37 W37 := Sound.weak (evF_sound (C := C37) (Base.of pvT_fits pvT_sized pvT_eq hT pvMixed pvIt_ok) Try.func37 (LoopsOk.of (C := C37) (fn := Try.f37) (l := []) (g := []) (by kernel_rfl) rfl (by kernel_rfl) trivial (RestOk.all rfl _) trivial) (evF_to (C := C37) (fun bs t K h0 => by
    unfold P37 at h0
    obtain ⟨r1, r2, rfl, h1⟩ := consK_inv h0
    obtain ⟨m0, rfl, h2⟩ := dmapK_inv h1
    obtain ⟨rfl, h3⟩ := nilK_inv h2
    obtain ⟨rfl, h4⟩ := bNilK_inv h3
    have h := h4
    refine ⟨_, _, rfl, rfl, ?_⟩
    rw [B37_eq m0 K]
    exact ⟨rfl, h⟩))) _
end Pv

namespace Pv
open Go Go.Proofs

theorem B38_eq (s0 : ByteArray) (prefix1 : ByteArray) (K : List Blk → List PV → Prop) : evF C38 Try.f38 [] [(.str s0), (.str prefix1)] K = (([] : List Blk).length = 0 ∧ B38 s0 prefix1 (fun z0 => K [] [(.bool z0)])) := by kernel_rfl
theorem W38_of (hT : AllSound Try.prog pvT pvG T38) : Sound Try.prog pvT pvG 38 W38 := Sound.weak (evF_sound (C := C38) (Base.of pvT_fits pvT_sized pvT_eq hT pvMixed pvIt_ok) Try.func38 (LoopsOk.of (C := C38) (fn := Try.f38) (l := []) (g := []) (by kernel_rfl) rfl (by kernel_rfl) trivial (RestOk.all rfl _) trivial) (evF_to (C := C38) (fun bs t K h0 => by
    unfold P38 at h0
    obtain ⟨s0, r2, rfl, h2⟩ := sI h0
    obtain ⟨prefix1, r4, rfl, h4⟩ := sI h2
    obtain ⟨rfl, h5⟩ := nilK_inv h4
    obtain ⟨rfl, h6⟩ := bNilK_inv h5
    have h := h6
    refine ⟨_, _, rfl, rfl, ?_⟩
    rw [B38_eq s0 prefix1 K]
    exact ⟨rfl, h⟩))) _
end Pv

namespace Pv
open Go Go.Proofs

theorem B69_eq (first0 : Int) (K : List Blk → List PV → Prop) : evF C69 Try.f69 [] [(.int .u64 first0)] K = (([] : List Blk).length = 0 ∧ B69 first0 (fun z0 => K [] [(.int .i64 z0)])) := by kernel_rfl
theorem W69_of (hT : AllSound Try.prog pvT pvG T69) : Sound Try.prog pvT pvG 69 W69 := Sound.weak (evF_sound (C := C69) (Base.of pvT_fits pvT_sized pvT_eq hT pvMixed pvIt_ok) Try.func69 (LoopsOk.of (C := C69) (fn := Try.f69) (l := []) (g := []) (by kernel_rfl) rfl (by kernel_rfl) trivial (RestOk.all rfl _) trivial) (evF_to (C := C69) (fun bs t K h0 => by
    unfold P69 at h0
    obtain ⟨first0, r2, rfl, h2⟩ := iI h0
    obtain ⟨rfl, h3⟩ := nilK_inv h2
    obtain ⟨rfl, h4⟩ := bNilK_inv h3
    have h := h4
    refine ⟨_, _, rfl, rfl, ?_⟩
    rw [B69_eq first0 K]
    exact ⟨rfl, h⟩))) _
end Pv

namespace Pv
open Go Go.Proofs

theorem B27_eq (b0 : List PV) (K : List Blk → List PV → Prop) : evF C27 Try.f27 [] [(.list 5 b0)] K = (([] : List Blk).length = 0 ∧ B27 b0 (fun z0 => K [] [(.int .u32 z0)])) := by kernel_rfl
theorem W27_of (hT : AllSound Try.prog pvT pvG T27) : Sound Try.prog pvT pvG 27 W27 := Sound.weak (evF_sound (C := C27) (Base.of pvT_fits pvT_sized pvT_eq hT pvMixed pvIt_ok) Try.func27 (LoopsOk.of (C := C27) (fn := Try.f27) (l := []) (g := []) (by kernel_rfl) rfl (by kernel_rfl) trivial (RestOk.all rfl _) trivial) (evF_to (C := C27) (fun bs t K h0 => by
    unfold P27 at h0
    obtain ⟨b0, r2, rfl, h2⟩ := lI h0
    obtain ⟨rfl, h3⟩ := nilK_inv h2
    obtain ⟨rfl, h4⟩ := bNilK_inv h3
    have h := h4
    refine ⟨_, _, rfl, rfl, ?_⟩
    rw [B27_eq b0 K]
    exact ⟨rfl, h⟩))) _
end Pv
