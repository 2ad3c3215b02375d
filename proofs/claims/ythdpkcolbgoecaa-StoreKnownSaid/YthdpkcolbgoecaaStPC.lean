/- A part of the proof. No conditions of its own beyond those that its theorems name. -/
import Derived.Test.YthdpkcolbgoecaaStD

namespace Pv
open Go Go.Proofs

theorem J28_9_eq (t5 : Int) (t6 : Int) (t8 : ByteArray) (t9 : Int) (t10 : List PV) (aa : List PV) (ab : Bool) (ac : Bool) (x1 : List PV) (K : Ex → List PV → List Blk → Prop) : J28_9 t5 t6 t8 t9 t10 aa ab ac x1 (K (.exit 0) (skU 4 ((.ptr 0 132 0 []) :: (.int .u64 t5) :: (.int .i64 t6) :: (.mapr 1) :: (.str t8) :: (.int .u64 t9) :: (.list 5 t10) :: skU 59 [])) [(.box true 132 (.agg [(.list 5 aa), (.bool ab), (.bool ac)])), (.map true 9 77 x1)]) (K .normal (skU 4 ((.ptr 0 132 0 []) :: (.int .u64 t5) :: (.int .i64 t6) :: (.mapr 1) :: (.str t8) :: (.int .u64 t9) :: (.list 5 t10) :: skU 59 [])) [(.box true 132 (.agg [(.list 5 aa), (.bool ab), (.bool ac)])), (.map true 9 77 x1)]) = evC C28 (codeOf Try.f28 [1, 1, 1, 1, 0, 1, 0, 0, 1, 0, 0, 1, 0, 1]) (mkSt (skU 4 ((.ptr 0 132 0 []) :: (.int .u64 t5) :: (.int .i64 t6) :: (.mapr 1) :: (.str t8) :: (.int .u64 t9) :: (.list 5 t10) :: skU 59 [])) [(.box true 132 (.agg [(.list 5 aa), (.bool ab), (.bool ac)])), (.map true 9 77 x1)]) (onSt K) := by kernel_rfl
theorem Q28_9_ok : RestOk C28 (codeOf Try.f28 [1, 1, 1, 1, 0, 1, 0, 0, 1, 0, 0, 1, 0, 1]) := RestOk.to (l := Q28_9) (by kernel_rfl) (by
    intro t bs K h0
    unfold Q28_9 at h0
    obtain ⟨r1, rfl, h1⟩ := skipU_inv h0
    obtain ⟨r3, rfl, h3⟩ := pI h1
    obtain ⟨t5, r5, rfl, h5⟩ := iI h3
    obtain ⟨t6, r7, rfl, h7⟩ := iI h5
    obtain ⟨r9, rfl, h9⟩ := mI h7
    obtain ⟨t8, r11, rfl, h11⟩ := sI h9
    obtain ⟨t9, r13, rfl, h13⟩ := iI h11
    obtain ⟨t10, r15, rfl, h15⟩ := lI h13
    obtain ⟨r16, rfl, h16⟩ := skipU_inv h15
    obtain ⟨rfl, h17⟩ := nilK_inv h16
    obtain ⟨r20, r18, rfl, h20⟩ := bA h17
    obtain ⟨aa, r22, rfl, h22⟩ := lI h20
    obtain ⟨ab, r24, rfl, h24⟩ := bI h22
    obtain ⟨ac, r26, rfl, h26⟩ := bI h24
    obtain ⟨rfl, h27⟩ := nilK_inv h26
    obtain ⟨x1, r28, rfl, h29⟩ := bM h27
    obtain ⟨rfl, h30⟩ := bNilK_inv h29
    have h := h30
    refine ⟨_, _, rfl, rfl, ?_⟩
    rw [← J28_9_eq t5 t6 t8 t9 t10 aa ab ac x1 K]
    exact h)
theorem J28_11_eq (t5 : Int) (t6 : Int) (t8 : ByteArray) (t9 : Int) (t10 : List PV) (t11 : List PV) (aa : List PV) (ab : Bool) (ac : Bool) (x1 : List PV) (K : Ex → List PV → List Blk → Prop) : J28_11 t5 t6 t8 t9 t10 t11 aa ab ac x1 (K (.exit 0) (skU 4 ((.ptr 0 132 0 []) :: (.int .u64 t5) :: (.int .i64 t6) :: (.mapr 1) :: (.str t8) :: (.int .u64 t9) :: (.list 5 t10) :: (.list 5 t11) :: skU 58 [])) [(.box true 132 (.agg [(.list 5 aa), (.bool ab), (.bool ac)])), (.map true 9 77 x1)]) (K .normal (skU 4 ((.ptr 0 132 0 []) :: (.int .u64 t5) :: (.int .i64 t6) :: (.mapr 1) :: (.str t8) :: (.int .u64 t9) :: (.list 5 t10) :: (.list 5 t11) :: skU 58 [])) [(.box true 132 (.agg [(.list 5 aa), (.bool ab), (.bool ac)])), (.map true 9 77 x1)]) = evC C28 (codeOf Try.f28 [1, 1, 1, 1, 0, 1, 0, 0, 1, 0, 0, 1, 1, 0, 1]) (mkSt (skU 4 ((.ptr 0 132 0 []) :: (.int .u64 t5) :: (.int .i64 t6) :: (.mapr 1) :: (.str t8) :: (.int .u64 t9) :: (.list 5 t10) :: (.list 5 t11) :: skU 58 [])) [(.box true 132 (.agg [(.list 5 aa), (.bool ab), (.bool ac)])), (.map true 9 77 x1)]) (onSt K) := by kernel_rfl
theorem Q28_11_ok : RestOk C28 (codeOf Try.f28 [1, 1, 1, 1, 0, 1, 0, 0, 1, 0, 0, 1, 1, 0, 1]) := RestOk.to (l := Q28_11) (by kernel_rfl) (by
    intro t bs K h0
    unfold Q28_11 at h0
    obtain ⟨r1, rfl, h1⟩ := skipU_inv h0
    obtain ⟨r3, rfl, h3⟩ := pI h1
    obtain ⟨t5, r5, rfl, h5⟩ := iI h3
    obtain ⟨t6, r7, rfl, h7⟩ := iI h5
    obtain ⟨r9, rfl, h9⟩ := mI h7
    obtain ⟨t8, r11, rfl, h11⟩ := sI h9
    obtain ⟨t9, r13, rfl, h13⟩ := iI h11
    obtain ⟨t10, r15, rfl, h15⟩ := lI h13
    obtain ⟨t11, r17, rfl, h17⟩ := lI h15
    obtain ⟨r18, rfl, h18⟩ := skipU_inv h17
    obtain ⟨rfl, h19⟩ := nilK_inv h18
    obtain ⟨r22, r20, rfl, h22⟩ := bA h19
    obtain ⟨aa, r24, rfl, h24⟩ := lI h22
    obtain ⟨ab, r26, rfl, h26⟩ := bI h24
    obtain ⟨ac, r28, rfl, h28⟩ := bI h26
    obtain ⟨rfl, h29⟩ := nilK_inv h28
    obtain ⟨x1, r30, rfl, h31⟩ := bM h29
    obtain ⟨rfl, h32⟩ := bNilK_inv h31
    have h := h32
    refine ⟨_, _, rfl, rfl, ?_⟩
    rw [← J28_11_eq t5 t6 t8 t9 t10 t11 aa ab ac x1 K]
    exact h)
theorem J28_14_eq (t5 : Int) (t6 : Int) (t9 : Int) (t10 : List PV) (t11 : List PV) (aa : List PV) (ab : Bool) (ac : Bool) (x1 : List PV) (K : Ex → List PV → List Blk → Prop) : J28_14 t5 t6 t9 t10 t11 aa ab ac x1 (fun z2 z7 => K .normal (skU 4 ((.ptr 0 132 0 []) :: (.int .u64 t5) :: (.int .i64 t6) :: (.mapr 1) :: (.str z2) :: (.int .u64 t9) :: skU 60 [])) [(.box true 132 (.agg [(.list 5 aa), (.bool ab), (.bool ac)])), (.map true 9 77 z7)]) = evC C28 (codeOf Try.f28 [1, 1, 1, 1, 0, 1, 0, 0, 1, 0, 0, 1, 1, 1, 1]) (mkSt (skU 4 ((.ptr 0 132 0 []) :: (.int .u64 t5) :: (.int .i64 t6) :: (.mapr 1) :: skU 1 ((.int .u64 t9) :: (.list 5 t10) :: (.list 5 t11) :: skU 58 []))) [(.box true 132 (.agg [(.list 5 aa), (.bool ab), (.bool ac)])), (.map true 9 77 x1)]) (onSt K) := by kernel_rfl
theorem Q28_14_ok : RestOk C28 (codeOf Try.f28 [1, 1, 1, 1, 0, 1, 0, 0, 1, 0, 0, 1, 1, 1, 1]) := RestOk.to (l := Q28_14) (by kernel_rfl) (by
    intro t bs K h0
    unfold Q28_14 at h0
    obtain ⟨r1, rfl, h1⟩ := skipU_inv h0
    obtain ⟨r3, rfl, h3⟩ := pI h1
    obtain ⟨t5, r5, rfl, h5⟩ := iI h3
    obtain ⟨t6, r7, rfl, h7⟩ := iI h5
    obtain ⟨r9, rfl, h9⟩ := mI h7
    obtain ⟨r10, rfl, h10⟩ := skipU_inv h9
    obtain ⟨t9, r12, rfl, h12⟩ := iI h10
    obtain ⟨t10, r14, rfl, h14⟩ := lI h12
    obtain ⟨t11, r16, rfl, h16⟩ := lI h14
    obtain ⟨r17, rfl, h17⟩ := skipU_inv h16
    obtain ⟨rfl, h18⟩ := nilK_inv h17
    obtain ⟨r21, r19, rfl, h21⟩ := bA h18
    obtain ⟨aa, r23, rfl, h23⟩ := lI h21
    obtain ⟨ab, r25, rfl, h25⟩ := bI h23
    obtain ⟨ac, r27, rfl, h27⟩ := bI h25
    obtain ⟨rfl, h28⟩ := nilK_inv h27
    obtain ⟨x1, r29, rfl, h30⟩ := bM h28
    obtain ⟨rfl, h31⟩ := bNilK_inv h30
    have h := h31
    refine ⟨_, _, rfl, rfl, ?_⟩
    rw [← J28_14_eq t5 t6 t9 t10 t11 aa ab ac x1 K]
    exact h)
theorem J28_12_eq (t5 : Int) (t6 : Int) (t8 : ByteArray) (t9 : Int) (t10 : List PV) (t11 : List PV) (aa : List PV) (ab : Bool) (ac : Bool) (x1 : List PV) (K : Ex → List PV → List Blk → Prop) : J28_12 t5 t6 t8 t9 t10 t11 aa ab ac x1 (K .ret (skU 2 (.nilm :: (.int .i64 4) :: skU 66 [])) []) (fun z2 z7 => K .normal (skU 4 ((.ptr 0 132 0 []) :: (.int .u64 t5) :: (.int .i64 t6) :: (.mapr 1) :: (.str z2) :: (.int .u64 t9) :: skU 60 [])) [(.box true 132 (.agg [(.list 5 aa), (.bool ab), (.bool ac)])), (.map true 9 77 z7)]) = evC C28 (codeOf Try.f28 [1, 1, 1, 1, 0, 1, 0, 0, 1, 0, 0, 1, 1, 1]) (mkSt (skU 4 ((.ptr 0 132 0 []) :: (.int .u64 t5) :: (.int .i64 t6) :: (.mapr 1) :: (.str t8) :: (.int .u64 t9) :: (.list 5 t10) :: (.list 5 t11) :: skU 58 [])) [(.box true 132 (.agg [(.list 5 aa), (.bool ab), (.bool ac)])), (.map true 9 77 x1)]) (onSt K) := by kernel_rfl
theorem Q28_12_ok : RestOk C28 (codeOf Try.f28 [1, 1, 1, 1, 0, 1, 0, 0, 1, 0, 0, 1, 1, 1]) := RestOk.to (l := Q28_12) (by kernel_rfl) (by
    intro t bs K h0
    unfold Q28_12 at h0
    obtain ⟨r1, rfl, h1⟩ := skipU_inv h0
    obtain ⟨r3, rfl, h3⟩ := pI h1
    obtain ⟨t5, r5, rfl, h5⟩ := iI h3
    obtain ⟨t6, r7, rfl, h7⟩ := iI h5
    obtain ⟨r9, rfl, h9⟩ := mI h7
    obtain ⟨t8, r11, rfl, h11⟩ := sI h9
    obtain ⟨t9, r13, rfl, h13⟩ := iI h11
    obtain ⟨t10, r15, rfl, h15⟩ := lI h13
    obtain ⟨t11, r17, rfl, h17⟩ := lI h15
    obtain ⟨r18, rfl, h18⟩ := skipU_inv h17
    obtain ⟨rfl, h19⟩ := nilK_inv h18
    obtain ⟨r22, r20, rfl, h22⟩ := bA h19
    obtain ⟨aa, r24, rfl, h24⟩ := lI h22
    obtain ⟨ab, r26, rfl, h26⟩ := bI h24
    obtain ⟨ac, r28, rfl, h28⟩ := bI h26
    obtain ⟨rfl, h29⟩ := nilK_inv h28
    obtain ⟨x1, r30, rfl, h31⟩ := bM h29
    obtain ⟨rfl, h32⟩ := bNilK_inv h31
    have h := h32
    refine ⟨_, _, rfl, rfl, ?_⟩
    rw [← J28_12_eq t5 t6 t8 t9 t10 t11 aa ab ac x1 K]
    exact h)
theorem J28_10_eq (t5 : Int) (t6 : Int) (t8 : ByteArray) (t9 : Int) (t10 : List PV) (aa : List PV) (ab : Bool) (ac : Bool) (x1 : List PV) (K : Ex → List PV → List Blk → Prop) : J28_10 t5 t6 t8 t9 t10 aa ab ac x1 (fun z1 z5 z6 z7 z8 => K (.exit 0) (skU 4 ((.ptr 0 132 0 []) :: (.int .u64 t5) :: (.int .i64 z1) :: (.mapr 1) :: (.str t8) :: (.int .u64 t9) :: (.list 5 t10) :: (.list 5 z5) :: skU 58 [])) [(.box true 132 (.agg [(.list 5 z6), (.bool z7), (.bool z8)])), (.map true 9 77 x1)]) (K .ret (skU 2 (.nilm :: (.int .i64 4) :: skU 66 [])) []) (fun z1 z2 z4 z5 z6 z7 => K .normal (skU 4 ((.ptr 0 132 0 []) :: (.int .u64 t5) :: (.int .i64 z1) :: (.mapr 1) :: (.str z2) :: (.int .u64 t9) :: skU 60 [])) [(.box true 132 (.agg [(.list 5 z4), (.bool z5), (.bool z6)])), (.map true 9 77 z7)]) = evC C28 (codeOf Try.f28 [1, 1, 1, 1, 0, 1, 0, 0, 1, 0, 0, 1, 1]) (mkSt (skU 4 ((.ptr 0 132 0 []) :: (.int .u64 t5) :: (.int .i64 t6) :: (.mapr 1) :: (.str t8) :: (.int .u64 t9) :: (.list 5 t10) :: skU 59 [])) [(.box true 132 (.agg [(.list 5 aa), (.bool ab), (.bool ac)])), (.map true 9 77 x1)]) (onSt K) := by kernel_rfl
theorem Q28_10_ok : RestOk C28 (codeOf Try.f28 [1, 1, 1, 1, 0, 1, 0, 0, 1, 0, 0, 1, 1]) := RestOk.to (l := Q28_10) (by kernel_rfl) (by
    intro t bs K h0
    unfold Q28_10 at h0
    obtain ⟨r1, rfl, h1⟩ := skipU_inv h0
    obtain ⟨r3, rfl, h3⟩ := pI h1
    obtain ⟨t5, r5, rfl, h5⟩ := iI h3
    obtain ⟨t6, r7, rfl, h7⟩ := iI h5
    obtain ⟨r9, rfl, h9⟩ := mI h7
    obtain ⟨t8, r11, rfl, h11⟩ := sI h9
    obtain ⟨t9, r13, rfl, h13⟩ := iI h11
    obtain ⟨t10, r15, rfl, h15⟩ := lI h13
    obtain ⟨r16, rfl, h16⟩ := skipU_inv h15
    obtain ⟨rfl, h17⟩ := nilK_inv h16
    obtain ⟨r20, r18, rfl, h20⟩ := bA h17
    obtain ⟨aa, r22, rfl, h22⟩ := lI h20
    obtain ⟨ab, r24, rfl, h24⟩ := bI h22
    obtain ⟨ac, r26, rfl, h26⟩ := bI h24
    obtain ⟨rfl, h27⟩ := nilK_inv h26
    obtain ⟨x1, r28, rfl, h29⟩ := bM h27
    obtain ⟨rfl, h30⟩ := bNilK_inv h29
    have h := h30
    refine ⟨_, _, rfl, rfl, ?_⟩
    rw [← J28_10_eq t5 t6 t8 t9 t10 aa ab ac x1 K]
    exact h)
theorem J28_8_eq (t5 : Int) (t8 : ByteArray) (t9 : Int) (aa : List PV) (ab : Bool) (ac : Bool) (x1 : List PV) (K : Ex → List PV → List Blk → Prop) : J28_8 t5 t8 t9 aa ab ac x1 (fun z1 z4 z5 z6 z7 => K (.exit 0) (skU 4 ((.ptr 0 132 0 []) :: (.int .u64 t5) :: (.int .i64 z1) :: (.mapr 1) :: (.str t8) :: (.int .u64 t9) :: (.list 5 z4) :: skU 59 [])) [(.box true 132 (.agg [(.list 5 z5), (.bool z6), (.bool z7)])), (.map true 9 77 x1)]) (fun z1 z4 z5 z6 z7 z8 => K (.exit 0) (skU 4 ((.ptr 0 132 0 []) :: (.int .u64 t5) :: (.int .i64 z1) :: (.mapr 1) :: (.str t8) :: (.int .u64 t9) :: (.list 5 z4) :: (.list 5 z5) :: skU 58 [])) [(.box true 132 (.agg [(.list 5 z6), (.bool z7), (.bool z8)])), (.map true 9 77 x1)]) (K .ret (skU 2 (.nilm :: (.int .i64 4) :: skU 66 [])) []) (fun z1 z2 z4 z5 z6 z7 => K .normal (skU 4 ((.ptr 0 132 0 []) :: (.int .u64 t5) :: (.int .i64 z1) :: (.mapr 1) :: (.str z2) :: (.int .u64 t9) :: skU 60 [])) [(.box true 132 (.agg [(.list 5 z4), (.bool z5), (.bool z6)])), (.map true 9 77 z7)]) = evC C28 (codeOf Try.f28 [1, 1, 1, 1, 0, 1, 0, 0, 1, 0, 0, 1]) (mkSt (skU 4 ((.ptr 0 132 0 []) :: (.int .u64 t5) :: skU 1 ((.mapr 1) :: (.str t8) :: (.int .u64 t9) :: skU 60 []))) [(.box true 132 (.agg [(.list 5 aa), (.bool ab), (.bool ac)])), (.map true 9 77 x1)]) (onSt K) := by kernel_rfl
theorem Q28_8_ok : RestOk C28 (codeOf Try.f28 [1, 1, 1, 1, 0, 1, 0, 0, 1, 0, 0, 1]) := RestOk.to (l := Q28_8) (by kernel_rfl) (by
    intro t bs K h0
    unfold Q28_8 at h0
    obtain ⟨r1, rfl, h1⟩ := skipU_inv h0
    obtain ⟨r3, rfl, h3⟩ := pI h1
    obtain ⟨t5, r5, rfl, h5⟩ := iI h3
    obtain ⟨r6, rfl, h6⟩ := skipU_inv h5
    obtain ⟨r8, rfl, h8⟩ := mI h6
    obtain ⟨t8, r10, rfl, h10⟩ := sI h8
    obtain ⟨t9, r12, rfl, h12⟩ := iI h10
    obtain ⟨r13, rfl, h13⟩ := skipU_inv h12
    obtain ⟨rfl, h14⟩ := nilK_inv h13
    obtain ⟨r17, r15, rfl, h17⟩ := bA h14
    obtain ⟨aa, r19, rfl, h19⟩ := lI h17
    obtain ⟨ab, r21, rfl, h21⟩ := bI h19
    obtain ⟨ac, r23, rfl, h23⟩ := bI h21
    obtain ⟨rfl, h24⟩ := nilK_inv h23
    obtain ⟨x1, r25, rfl, h26⟩ := bM h24
    obtain ⟨rfl, h27⟩ := bNilK_inv h26
    have h := h27
    refine ⟨_, _, rfl, rfl, ?_⟩
    rw [← J28_8_eq t5 t8 t9 aa ab ac x1 K]
    exact h)
theorem J28_7_eq (t5 : Int) (t6 : Int) (t8 : ByteArray) (t9 : Int) (aa : List PV) (ab : Bool) (ac : Bool) (x1 : List PV) (K : Ex → List PV → List Blk → Prop) : J28_7 t5 t6 t8 t9 aa ab ac x1 (fun z1 z4 z5 z6 z7 => K (.exit 0) (skU 4 ((.ptr 0 132 0 []) :: (.int .u64 t5) :: (.int .i64 z1) :: (.mapr 1) :: (.str t8) :: (.int .u64 t9) :: (.list 5 z4) :: skU 59 [])) [(.box true 132 (.agg [(.list 5 z5), (.bool z6), (.bool z7)])), (.map true 9 77 x1)]) (fun z1 z4 z5 z6 z7 z8 => K (.exit 0) (skU 4 ((.ptr 0 132 0 []) :: (.int .u64 t5) :: (.int .i64 z1) :: (.mapr 1) :: (.str t8) :: (.int .u64 t9) :: (.list 5 z4) :: (.list 5 z5) :: skU 58 [])) [(.box true 132 (.agg [(.list 5 z6), (.bool z7), (.bool z8)])), (.map true 9 77 x1)]) (K .ret (skU 2 (.nilm :: (.int .i64 4) :: skU 66 [])) []) (fun z1 z2 z3 z4 z5 z6 z7 => K .normal (skU 4 ((.ptr 0 132 0 []) :: (.int .u64 t5) :: (.int .i64 z1) :: (.mapr 1) :: (.str z2) :: (.int .u64 z3) :: skU 60 [])) [(.box true 132 (.agg [(.list 5 z4), (.bool z5), (.bool z6)])), (.map true 9 77 z7)]) = evC C28 (codeOf Try.f28 [1, 1, 1, 1, 0, 1, 0, 0, 1]) (mkSt (skU 4 ((.ptr 0 132 0 []) :: (.int .u64 t5) :: (.int .i64 t6) :: (.mapr 1) :: (.str t8) :: (.int .u64 t9) :: skU 60 [])) [(.box true 132 (.agg [(.list 5 aa), (.bool ab), (.bool ac)])), (.map true 9 77 x1)]) (onSt K) := by kernel_rfl
theorem Q28_7_ok : RestOk C28 (codeOf Try.f28 [1, 1, 1, 1, 0, 1, 0, 0, 1]) := RestOk.to (l := Q28_7) (by kernel_rfl) (by
    intro t bs K h0
    unfold Q28_7 at h0
    obtain ⟨r1, rfl, h1⟩ := skipU_inv h0
    obtain ⟨r3, rfl, h3⟩ := pI h1
    obtain ⟨t5, r5, rfl, h5⟩ := iI h3
    obtain ⟨t6, r7, rfl, h7⟩ := iI h5
    obtain ⟨r9, rfl, h9⟩ := mI h7
    obtain ⟨t8, r11, rfl, h11⟩ := sI h9
    obtain ⟨t9, r13, rfl, h13⟩ := iI h11
    obtain ⟨r14, rfl, h14⟩ := skipU_inv h13
    obtain ⟨rfl, h15⟩ := nilK_inv h14
    obtain ⟨r18, r16, rfl, h18⟩ := bA h15
    obtain ⟨aa, r20, rfl, h20⟩ := lI h18
    obtain ⟨ab, r22, rfl, h22⟩ := bI h20
    obtain ⟨ac, r24, rfl, h24⟩ := bI h22
    obtain ⟨rfl, h25⟩ := nilK_inv h24
    obtain ⟨x1, r26, rfl, h27⟩ := bM h25
    obtain ⟨rfl, h28⟩ := bNilK_inv h27
    have h := h28
    refine ⟨_, _, rfl, rfl, ?_⟩
    rw [← J28_7_eq t5 t6 t8 t9 aa ab ac x1 K]
    exact h)
theorem S28_5_eq (t5 : Int) (t6 : Int) (t8 : ByteArray) (t9 : Int) (aa : List PV) (ab : Bool) (ac : Bool) (x1 : List PV) (G : Ex → St → Prop) : evC C28 (codeOf Try.f28 [1, 1, 1, 1, 0, 1, 0, 0]) (mkSt (skU 4 ((.ptr 0 132 0 []) :: (.int .u64 t5) :: (.int .i64 t6) :: (.mapr 1) :: (.str t8) :: (.int .u64 t9) :: skU 60 [])) [(.box true 132 (.agg [(.list 5 aa), (.bool ab), (.bool ac)])), (.map true 9 77 x1)]) G = S28_5 t5 t6 t8 t9 aa ab ac x1 (fun t6 t8 t9 aa ab ac x1 => G .normal (mkSt (skU 4 ((.ptr 0 132 0 []) :: (.int .u64 t5) :: (.int .i64 t6) :: (.mapr 1) :: (.str t8) :: (.int .u64 t9) :: skU 60 [])) [(.box true 132 (.agg [(.list 5 aa), (.bool ab), (.bool ac)])), (.map true 9 77 x1)])) (fun z1 z2 z3 z4 z5 z6 z7 z8 => G (.exit 0) (mkSt (skU 4 ((.ptr 0 132 0 []) :: (.int .u64 t5) :: (.int .i64 z1) :: (.mapr 1) :: (.str z2) :: (.int .u64 z3) :: (.list 5 z4) :: skU 59 [])) [(.box true 132 (.agg [(.list 5 z5), (.bool z6), (.bool z7)])), (.map true 9 77 z8)])) (fun z1 z2 z3 z4 z5 z6 z7 z8 z9 => G (.exit 0) (mkSt (skU 4 ((.ptr 0 132 0 []) :: (.int .u64 t5) :: (.int .i64 z1) :: (.mapr 1) :: (.str z2) :: (.int .u64 z3) :: (.list 5 z4) :: (.list 5 z5) :: skU 58 [])) [(.box true 132 (.agg [(.list 5 z6), (.bool z7), (.bool z8)])), (.map true 9 77 z9)])) (G .ret (mkSt (skU 2 (.nilm :: (.int .i64 4) :: skU 66 [])) [])) (fun z1 z2 z3 z4 z5 z6 z7 => G (.exit 0) (mkSt (skU 4 ((.ptr 0 132 0 []) :: (.int .u64 t5) :: (.int .i64 z1) :: (.mapr 1) :: (.str z2) :: (.int .u64 z3) :: skU 60 [])) [(.box true 132 (.agg [(.list 5 z4), (.bool z5), (.bool z6)])), (.map true 9 77 z7)])) := by kernel_rfl
theorem R28_5_eq (t5 : Int) (G : Ex → St → Prop) : ∀ (n : Nat) (t6 : Int) (t8 : ByteArray) (t9 : Int) (aa : List PV) (ab : Bool) (ac : Bool) (x1 : List PV), evLoop C28 (codeOf Try.f28 [1, 1, 1, 1, 0, 1, 0, 0]) n (mkSt (skU 4 ((.ptr 0 132 0 []) :: (.int .u64 t5) :: (.int .i64 t6) :: (.mapr 1) :: (.str t8) :: (.int .u64 t9) :: skU 60 [])) [(.box true 132 (.agg [(.list 5 aa), (.bool ab), (.bool ac)])), (.map true 9 77 x1)]) G = R28_5 t5 (fun z1 z2 z3 z4 z5 z6 z7 z8 => G (.exit 0) (mkSt (skU 4 ((.ptr 0 132 0 []) :: (.int .u64 t5) :: (.int .i64 z1) :: (.mapr 1) :: (.str z2) :: (.int .u64 z3) :: (.list 5 z4) :: skU 59 [])) [(.box true 132 (.agg [(.list 5 z5), (.bool z6), (.bool z7)])), (.map true 9 77 z8)])) (fun z1 z2 z3 z4 z5 z6 z7 z8 z9 => G (.exit 0) (mkSt (skU 4 ((.ptr 0 132 0 []) :: (.int .u64 t5) :: (.int .i64 z1) :: (.mapr 1) :: (.str z2) :: (.int .u64 z3) :: (.list 5 z4) :: (.list 5 z5) :: skU 58 [])) [(.box true 132 (.agg [(.list 5 z6), (.bool z7), (.bool z8)])), (.map true 9 77 z9)])) (G .ret (mkSt (skU 2 (.nilm :: (.int .i64 4) :: skU 66 [])) [])) (fun z1 z2 z3 z4 z5 z6 z7 => G (.exit 0) (mkSt (skU 4 ((.ptr 0 132 0 []) :: (.int .u64 t5) :: (.int .i64 z1) :: (.mapr 1) :: (.str z2) :: (.int .u64 z3) :: skU 60 [])) [(.box true 132 (.agg [(.list 5 z4), (.bool z5), (.bool z6)])), (.map true 9 77 z7)])) n t6 t8 t9 aa ab ac x1
  | 0, _, _, _, _, _, _, _ => rfl
  | n + 1, t6, t8, t9, aa, ab, ac, x1 => (S28_5_eq t5 t6 t8 t9 aa ab ac x1 (fun e s => match e with | .normal => evLoop C28 (codeOf Try.f28 [1, 1, 1, 1, 0, 1, 0, 0]) n s G | .exit id => G (.exit id) s | .ret => G .ret s)).trans (congrArg (fun q => S28_5 t5 t6 t8 t9 aa ab ac x1 q (fun z1 z2 z3 z4 z5 z6 z7 z8 => G (.exit 0) (mkSt (skU 4 ((.ptr 0 132 0 []) :: (.int .u64 t5) :: (.int .i64 z1) :: (.mapr 1) :: (.str z2) :: (.int .u64 z3) :: (.list 5 z4) :: skU 59 [])) [(.box true 132 (.agg [(.list 5 z5), (.bool z6), (.bool z7)])), (.map true 9 77 z8)])) (fun z1 z2 z3 z4 z5 z6 z7 z8 z9 => G (.exit 0) (mkSt (skU 4 ((.ptr 0 132 0 []) :: (.int .u64 t5) :: (.int .i64 z1) :: (.mapr 1) :: (.str z2) :: (.int .u64 z3) :: (.list 5 z4) :: (.list 5 z5) :: skU 58 [])) [(.box true 132 (.agg [(.list 5 z6), (.bool z7), (.bool z8)])), (.map true 9 77 z9)])) (G .ret (mkSt (skU 2 (.nilm :: (.int .i64 4) :: skU 66 [])) [])) (fun z1 z2 z3 z4 z5 z6 z7 => G (.exit 0) (mkSt (skU 4 ((.ptr 0 132 0 []) :: (.int .u64 t5) :: (.int .i64 z1) :: (.mapr 1) :: (.str z2) :: (.int .u64 z3) :: skU 60 [])) [(.box true 132 (.agg [(.list 5 z4), (.bool z5), (.bool z6)])), (.map true 9 77 z7)]))) (funext fun t6 => funext fun t8 => funext fun t9 => funext fun aa => funext fun ab => funext fun ac => funext fun x1 => R28_5_eq t5 G n t6 t8 t9 aa ab ac x1))
theorem R28_5_eqK (t5 : Int) (K : Ex → List PV → List Blk → Prop) (n : Nat) (t6 : Int) (t8 : ByteArray) (t9 : Int) (aa : List PV) (ab : Bool) (ac : Bool) (x1 : List PV) : R28_5 t5 (fun z1 z2 z3 z4 z5 z6 z7 z8 => K (.exit 0) (skU 4 ((.ptr 0 132 0 []) :: (.int .u64 t5) :: (.int .i64 z1) :: (.mapr 1) :: (.str z2) :: (.int .u64 z3) :: (.list 5 z4) :: skU 59 [])) [(.box true 132 (.agg [(.list 5 z5), (.bool z6), (.bool z7)])), (.map true 9 77 z8)]) (fun z1 z2 z3 z4 z5 z6 z7 z8 z9 => K (.exit 0) (skU 4 ((.ptr 0 132 0 []) :: (.int .u64 t5) :: (.int .i64 z1) :: (.mapr 1) :: (.str z2) :: (.int .u64 z3) :: (.list 5 z4) :: (.list 5 z5) :: skU 58 [])) [(.box true 132 (.agg [(.list 5 z6), (.bool z7), (.bool z8)])), (.map true 9 77 z9)]) (K .ret (skU 2 (.nilm :: (.int .i64 4) :: skU 66 [])) []) (fun z1 z2 z3 z4 z5 z6 z7 => K (.exit 0) (skU 4 ((.ptr 0 132 0 []) :: (.int .u64 t5) :: (.int .i64 z1) :: (.mapr 1) :: (.str z2) :: (.int .u64 z3) :: skU 60 [])) [(.box true 132 (.agg [(.list 5 z4), (.bool z5), (.bool z6)])), (.map true 9 77 z7)]) n t6 t8 t9 aa ab ac x1 = evLoop C28 (codeOf Try.f28 [1, 1, 1, 1, 0, 1, 0, 0]) n (mkSt (skU 4 ((.ptr 0 132 0 []) :: (.int .u64 t5) :: (.int .i64 t6) :: (.mapr 1) :: (.str t8) :: (.int .u64 t9) :: skU 60 [])) [(.box true 132 (.agg [(.list 5 aa), (.bool ab), (.bool ac)])), (.map true 9 77 x1)]) (onSt K) := ((R28_5_eq t5 (onSt K) n t6 t8 t9 aa ab ac x1).trans (by kernel_rfl)).symm
theorem Q28_5_ok : LoopOk C28 (codeOf Try.f28 [1, 1, 1, 1, 0, 1, 0, 0]) := LoopOk.of (l := Q28_5) (by kernel_rfl) (fun t bs K h0 => by
    unfold Q28_5 at h0
    obtain ⟨r1, rfl, h1⟩ := skipU_inv h0
    obtain ⟨r3, rfl, h3⟩ := pI h1
    obtain ⟨t5, r5, rfl, h5⟩ := iI h3
    obtain ⟨t6, r7, rfl, h7⟩ := iI h5
    obtain ⟨r9, rfl, h9⟩ := mI h7
    obtain ⟨t8, r11, rfl, h11⟩ := sI h9
    obtain ⟨t9, r13, rfl, h13⟩ := iI h11
    obtain ⟨r14, rfl, h14⟩ := skipU_inv h13
    obtain ⟨rfl, h15⟩ := nilK_inv h14
    obtain ⟨r18, r16, rfl, h18⟩ := bA h15
    obtain ⟨aa, r20, rfl, h20⟩ := lI h18
    obtain ⟨ab, r22, rfl, h22⟩ := bI h20
    obtain ⟨ac, r24, rfl, h24⟩ := bI h22
    obtain ⟨rfl, h25⟩ := nilK_inv h24
    obtain ⟨x1, r26, rfl, h27⟩ := bM h25
    obtain ⟨rfl, h28⟩ := bNilK_inv h27
    have h := h28
    obtain ⟨n, hn⟩ := h
    refine ⟨n, ?_⟩
    rw [← R28_5_eqK t5 K n t6 t8 t9 aa ab ac x1]
    exact hn)
theorem J28_18_eq (x0 : List PV) (K : Ex → List PV → List Blk → Prop) : J28_18 x0 (K .ret (skU 2 ((.mapr 0) :: (.int .i64 0) :: skU 66 [])) [(.map true 9 77 x0)]) = evC C28 (codeOf Try.f28 [1, 1, 1, 1, 1, 1]) (mkSt (skU 7 ((.mapr 0) :: skU 62 [])) [(.map true 9 77 x0)]) (onSt K) := by kernel_rfl
theorem Q28_18_ok : RestOk C28 (codeOf Try.f28 [1, 1, 1, 1, 1, 1]) := RestOk.to (l := Q28_18) (by kernel_rfl) (by
    intro t bs K h0
    unfold Q28_18 at h0
    obtain ⟨r1, rfl, h1⟩ := skipU_inv h0
    obtain ⟨r3, rfl, h3⟩ := mI h1
    obtain ⟨r4, rfl, h4⟩ := skipU_inv h3
    obtain ⟨rfl, h5⟩ := nilK_inv h4
    obtain ⟨x0, r6, rfl, h7⟩ := bM h5
    obtain ⟨rfl, h8⟩ := bNilK_inv h7
    have h := h8
    refine ⟨_, _, rfl, rfl, ?_⟩
    rw [← J28_18_eq x0 K]
    exact h)
theorem J28_4_eq (t5 : Int) (t6 : Int) (t8 : ByteArray) (aa : List PV) (ab : Bool) (ac : Bool) (x1 : List PV) (K : Ex → List PV → List Blk → Prop) : J28_4 t5 t6 t8 aa ab ac x1 (K .ret (skU 2 (.nilm :: (.int .i64 4) :: skU 66 [])) []) (fun z1 => K .ret (skU 2 ((.mapr 0) :: (.int .i64 0) :: skU 66 [])) [(.map true 9 77 z1)]) = evC C28 (codeOf Try.f28 [1, 1, 1, 1]) (mkSt (skU 4 ((.ptr 0 132 0 []) :: (.int .u64 t5) :: (.int .i64 t6) :: (.mapr 1) :: (.str t8) :: skU 61 [])) [(.box true 132 (.agg [(.list 5 aa), (.bool ab), (.bool ac)])), (.map true 9 77 x1)]) (onSt K) := by kernel_rfl
theorem Q28_4_ok : RestOk C28 (codeOf Try.f28 [1, 1, 1, 1]) := RestOk.to (l := Q28_4) (by kernel_rfl) (by
    intro t bs K h0
    unfold Q28_4 at h0
    obtain ⟨r1, rfl, h1⟩ := skipU_inv h0
    obtain ⟨r3, rfl, h3⟩ := pI h1
    obtain ⟨t5, r5, rfl, h5⟩ := iI h3
    obtain ⟨t6, r7, rfl, h7⟩ := iI h5
    obtain ⟨r9, rfl, h9⟩ := mI h7
    obtain ⟨t8, r11, rfl, h11⟩ := sI h9
    obtain ⟨r12, rfl, h12⟩ := skipU_inv h11
    obtain ⟨rfl, h13⟩ := nilK_inv h12
    obtain ⟨r16, r14, rfl, h16⟩ := bA h13
    obtain ⟨aa, r18, rfl, h18⟩ := lI h16
    obtain ⟨ab, r20, rfl, h20⟩ := bI h18
    obtain ⟨ac, r22, rfl, h22⟩ := bI h20
    obtain ⟨rfl, h23⟩ := nilK_inv h22
    obtain ⟨x1, r24, rfl, h25⟩ := bM h23
    obtain ⟨rfl, h26⟩ := bNilK_inv h25
    have h := h26
    refine ⟨_, _, rfl, rfl, ?_⟩
    rw [← J28_4_eq t5 t6 t8 aa ab ac x1 K]
    exact h)
theorem J28_3_eq (t5 : Int) (t6 : Int) (aa : List PV) (ab : Bool) (ac : Bool) (K : Ex → List PV → List Blk → Prop) : J28_3 t5 t6 aa ab ac (K .ret (skU 2 (.nilm :: (.int .i64 4) :: skU 66 [])) []) (fun z1 => K .ret (skU 2 ((.mapr 0) :: (.int .i64 0) :: skU 66 [])) [(.map true 9 77 z1)]) = evC C28 (codeOf Try.f28 [1, 1, 1]) (mkSt (skU 4 ((.ptr 0 132 0 []) :: (.int .u64 t5) :: (.int .i64 t6) :: skU 63 [])) [(.box true 132 (.agg [(.list 5 aa), (.bool ab), (.bool ac)]))]) (onSt K) := by kernel_rfl
theorem Q28_3_ok : RestOk C28 (codeOf Try.f28 [1, 1, 1]) := RestOk.to (l := Q28_3) (by kernel_rfl) (by
    intro t bs K h0
    unfold Q28_3 at h0
    obtain ⟨r1, rfl, h1⟩ := skipU_inv h0
    obtain ⟨r3, rfl, h3⟩ := pI h1
    obtain ⟨t5, r5, rfl, h5⟩ := iI h3
    obtain ⟨t6, r7, rfl, h7⟩ := iI h5
    obtain ⟨r8, rfl, h8⟩ := skipU_inv h7
    obtain ⟨rfl, h9⟩ := nilK_inv h8
    obtain ⟨r12, r10, rfl, h12⟩ := bA h9
    obtain ⟨aa, r14, rfl, h14⟩ := lI h12
    obtain ⟨ab, r16, rfl, h16⟩ := bI h14
    obtain ⟨ac, r18, rfl, h18⟩ := bI h16
    obtain ⟨rfl, h19⟩ := nilK_inv h18
    obtain ⟨rfl, h20⟩ := bNilK_inv h19
    have h := h20
    refine ⟨_, _, rfl, rfl, ?_⟩
    rw [← J28_3_eq t5 t6 aa ab ac K]
    exact h)
theorem J28_2_eq (t0 : List PV) (aa : List PV) (ab : Bool) (ac : Bool) (K : Ex → List PV → List Blk → Prop) : J28_2 t0 aa ab ac (K .ret (skU 2 (.nilm :: (.int .i64 4) :: skU 66 [])) []) (fun z1 => K .ret (skU 2 ((.mapr 0) :: (.int .i64 0) :: skU 66 [])) [(.map true 9 77 z1)]) = evC C28 (codeOf Try.f28 [1, 1]) (mkSt ((.list 5 t0) :: skU 3 ((.ptr 0 132 0 []) :: skU 65 [])) [(.box true 132 (.agg [(.list 5 aa), (.bool ab), (.bool ac)]))]) (onSt K) := by kernel_rfl
theorem Q28_2_ok : RestOk C28 (codeOf Try.f28 [1, 1]) := RestOk.to (l := Q28_2) (by kernel_rfl) (by
    intro t bs K h0
    unfold Q28_2 at h0
    obtain ⟨t0, r2, rfl, h2⟩ := lI h0
    obtain ⟨r3, rfl, h3⟩ := skipU_inv h2
    obtain ⟨r5, rfl, h5⟩ := pI h3
    obtain ⟨r6, rfl, h6⟩ := skipU_inv h5
    obtain ⟨rfl, h7⟩ := nilK_inv h6
    obtain ⟨r10, r8, rfl, h10⟩ := bA h7
    obtain ⟨aa, r12, rfl, h12⟩ := lI h10
    obtain ⟨ab, r14, rfl, h14⟩ := bI h12
    obtain ⟨ac, r16, rfl, h16⟩ := bI h14
    obtain ⟨rfl, h17⟩ := nilK_inv h16
    obtain ⟨rfl, h18⟩ := bNilK_inv h17
    have h := h18
    refine ⟨_, _, rfl, rfl, ?_⟩
    rw [← J28_2_eq t0 aa ab ac K]
    exact h)
theorem J28_1_eq (t0 : List PV) (K : Ex → List PV → List Blk → Prop) : J28_1 t0 (K .ret (skU 2 (.nilm :: (.int .i64 4) :: skU 66 [])) []) (fun z1 => K .ret (skU 2 ((.mapr 0) :: (.int .i64 0) :: skU 66 [])) [(.map true 9 77 z1)]) = evC C28 (codeOf Try.f28 [1]) (mkSt ((.list 5 t0) :: skU 69 []) []) (onSt K) := by kernel_rfl
theorem Q28_1_ok : RestOk C28 (codeOf Try.f28 [1]) := RestOk.to (l := Q28_1) (by kernel_rfl) (by
    intro t bs K h0
    unfold Q28_1 at h0
    obtain ⟨t0, r2, rfl, h2⟩ := lI h0
    obtain ⟨r3, rfl, h3⟩ := skipU_inv h2
    obtain ⟨rfl, h4⟩ := nilK_inv h3
    obtain ⟨rfl, h5⟩ := bNilK_inv h4
    have h := h5
    refine ⟨_, _, rfl, rfl, ?_⟩
    rw [← J28_1_eq t0 K]
    exact h)
theorem B28_eq (t0 : List PV) (K : List Blk → List PV → Prop) : evF C28 Try.f28 [] [(.list 5 t0)] K = (([] : List Blk).length = 0 ∧ B28 t0 (K [] [.nilm, (.int .i64 4)]) (fun z0 => K [(.map true 9 77 z0)] [(.mapr 0), (.int .i64 0)])) := by kernel_rfl
theorem W28_of (hT : AllSound Try.prog pvT pvG T28) : Sound Try.prog pvT pvG 28 W28 := Sound.weak (evF_sound (C := C28) (Base.of pvT_fits pvT_sized pvT_eq hT pvMixed pvIt_ok) Try.func28 (LoopsOk.of (C := C28) (fn := Try.f28) (l := [codeOf Try.f28 [1, 1, 1, 1, 0, 1, 0, 0]]) (r := [codeOf Try.f28 [1], codeOf Try.f28 [1, 1], codeOf Try.f28 [1, 1, 1], codeOf Try.f28 [1, 1, 1, 1], codeOf Try.f28 [1, 1, 1, 1, 1], codeOf Try.f28 [1, 1, 1, 1, 0, 1], codeOf Try.f28 [1, 1, 1, 1, 0, 1, 0, 0, 1], codeOf Try.f28 [1, 1, 1, 1, 0, 1, 0, 0, 0, 1], codeOf Try.f28 [1, 1, 1, 1, 0, 1, 0, 0, 1, 1], codeOf Try.f28 [1, 1, 1, 1, 0, 1, 0, 0, 1, 0, 0, 1], codeOf Try.f28 [1, 1, 1, 1, 0, 1, 0, 0, 1, 0, 0, 1, 1], codeOf Try.f28 [1, 1, 1, 1, 0, 1, 0, 0, 1, 0, 0, 1, 0, 1], codeOf Try.f28 [1, 1, 1, 1, 0, 1, 0, 0, 1, 0, 0, 1, 0, 1, 1], codeOf Try.f28 [1, 1, 1, 1, 0, 1, 0, 0, 1, 0, 0, 1, 1, 1], codeOf Try.f28 [1, 1, 1, 1, 0, 1, 0, 0, 1, 0, 0, 1, 1, 0, 1], codeOf Try.f28 [1, 1, 1, 1, 0, 1, 0, 0, 1, 0, 0, 1, 1, 0, 1, 1], codeOf Try.f28 [1, 1, 1, 1, 0, 1, 0, 0, 1, 0, 0, 1, 1, 1, 1], codeOf Try.f28 [1, 1, 1, 1, 0, 1, 0, 0, 1, 0, 0, 1, 1, 1, 0, 1], codeOf Try.f28 [1, 1, 1, 1, 0, 1, 0, 0, 1, 0, 0, 1, 1, 1, 0, 1, 0, 1], codeOf Try.f28 [1, 1, 1, 1, 0, 1, 0, 0, 1, 0, 0, 1, 1, 1, 1, 1], codeOf Try.f28 [1, 1, 1, 1, 1, 1], codeOf Try.f28 [1, 1, 1, 1, 1, 0, 1], codeOf Try.f28 [1, 1, 1, 1, 1, 0, 1, 0, 1], codeOf Try.f28 [1, 1, 1, 1, 1, 1, 1]]) (g := []) (by kernel_rfl) (by kernel_rfl) (by kernel_rfl) ⟨Q28_5_ok, trivial⟩ ⟨Q28_1_ok, ⟨Q28_2_ok, ⟨Q28_3_ok, ⟨Q28_4_ok, ⟨(RestOk.none (by kernel_rfl)), ⟨(RestOk.none (by kernel_rfl)), ⟨Q28_7_ok, ⟨(RestOk.none (by kernel_rfl)), ⟨(RestOk.none (by kernel_rfl)), ⟨Q28_8_ok, ⟨Q28_10_ok, ⟨Q28_9_ok, ⟨(RestOk.none (by kernel_rfl)), ⟨Q28_12_ok, ⟨Q28_11_ok, ⟨(RestOk.none (by kernel_rfl)), ⟨Q28_14_ok, ⟨(RestOk.none (by kernel_rfl)), ⟨(RestOk.none (by kernel_rfl)), ⟨(RestOk.none (by kernel_rfl)), ⟨Q28_18_ok, ⟨(RestOk.none (by kernel_rfl)), ⟨(RestOk.none (by kernel_rfl)), ⟨(RestOk.none (by kernel_rfl)), trivial⟩⟩⟩⟩⟩⟩⟩⟩⟩⟩⟩⟩⟩⟩⟩⟩⟩⟩⟩⟩⟩⟩⟩⟩ trivial) (evF_to (C := C28) (fun bs t K h0 => by
    unfold P28 at h0
    obtain ⟨t0, r2, rfl, h2⟩ := lI h0
    obtain ⟨rfl, h3⟩ := nilK_inv h2
    obtain ⟨rfl, h4⟩ := bNilK_inv h3
    have h := h4
    refine ⟨_, _, rfl, rfl, ?_⟩
    rw [B28_eq t0 K]
    exact ⟨rfl, h⟩))) _
end Pv

namespace Pv
open Go Go.Proofs

theorem S7_7_eq (t22 : Int) (ae : Nat) (af : Bool) (ag : Bool) (ah : Int) (ai : Int) (aj : Int) (x1 : List PV) (aa : Int) (ab : Int) (ac : Int) (ad : Int) (ak : Int) (al : Int) (am : Bool) (x3 : List PV) (G : Ex → St → Prop) : evC C7 (codeOf Try.f7 [1, 1, 1, 0, 1, 0, 0]) (mkSt ((.ptr 0 64 0 []) :: skU 3 ((.ptr 2 57 0 []) :: skU 17 ((.int .i64 t22) :: skU 88 []))) [(.box true 64 (.agg [(.sl 1 111 0 ae), (.bool af), (.bool ag), (.int .i64 ah), (.int .i64 ai), (.int .i64 aj)])), (.row true 111 x1), (.box true 57 (.agg [(.ptr 0 64 0 []), (.mapr 3), (.agg [(.int .u64 aa), (.int .i64 ab), (.int .i64 ac), (.int .u32 ad)]), (.int .i64 ak), (.int .u64 al), (.bool am)])), (.map false 9 77 x3)]) G = S7_7 al am x3 t22 ae af ag ah ai aj x1 aa ab ac ad ak (fun t22 ae af ag ah ai aj x1 aa ab ac ad ak => G .normal (mkSt ((.ptr 0 64 0 []) :: skU 3 ((.ptr 2 57 0 []) :: skU 17 ((.int .i64 t22) :: skU 88 []))) [(.box true 64 (.agg [(.sl 1 111 0 ae), (.bool af), (.bool ag), (.int .i64 ah), (.int .i64 ai), (.int .i64 aj)])), (.row true 111 x1), (.box true 57 (.agg [(.ptr 0 64 0 []), (.mapr 3), (.agg [(.int .u64 aa), (.int .i64 ab), (.int .i64 ac), (.int .u32 ad)]), (.int .i64 ak), (.int .u64 al), (.bool am)])), (.map false 9 77 x3)])) (fun z0 z1 z2 z3 z4 z5 z6 z7 => G .ret (mkSt (skU 2 (.nilp :: (.int .i64 z0) :: skU 107 [])) [(.box true 64 (.agg [(.sl 1 111 0 z1), (.bool z2), (.bool z3), (.int .i64 z4), (.int .i64 z5), (.int .i64 z6)])), (.row true 111 z7)])) (fun z0 z1 z2 z3 z4 z5 z6 z7 z8 z9 z10 z11 z12 => G (.exit 1) (mkSt ((.ptr 0 64 0 []) :: skU 3 ((.ptr 2 57 0 []) :: skU 17 ((.int .i64 z0) :: skU 88 []))) [(.box true 64 (.agg [(.sl 1 111 0 z1), (.bool z2), (.bool z3), (.int .i64 z4), (.int .i64 z5), (.int .i64 z6)])), (.row true 111 z7), (.box true 57 (.agg [(.ptr 0 64 0 []), (.mapr 3), (.agg [(.int .u64 z8), (.int .i64 z9), (.int .i64 z10), (.int .u32 z11)]), (.int .i64 z12), (.int .u64 al), (.bool am)])), (.map false 9 77 x3)])) := by kernel_rfl
theorem R7_7_eq (af : Int) (ag : Bool) (x3 : List PV) (G : Ex → St → Prop) : ∀ (n : Nat) (t22 : Int) (ae : Nat) (ah : Bool) (ai : Bool) (aj : Int) (ak : Int) (al : Int) (x1 : List PV) (aa : Int) (ab : Int) (ac : Int) (ad : Int) (am : Int), evLoop C7 (codeOf Try.f7 [1, 1, 1, 0, 1, 0, 0]) n (mkSt ((.ptr 0 64 0 []) :: skU 3 ((.ptr 2 57 0 []) :: skU 17 ((.int .i64 t22) :: skU 88 []))) [(.box true 64 (.agg [(.sl 1 111 0 ae), (.bool ah), (.bool ai), (.int .i64 aj), (.int .i64 ak), (.int .i64 al)])), (.row true 111 x1), (.box true 57 (.agg [(.ptr 0 64 0 []), (.mapr 3), (.agg [(.int .u64 aa), (.int .i64 ab), (.int .i64 ac), (.int .u32 ad)]), (.int .i64 am), (.int .u64 af), (.bool ag)])), (.map false 9 77 x3)]) G = R7_7 af ag x3 (fun z0 z1 z2 z3 z4 z5 z6 z7 => G .ret (mkSt (skU 2 (.nilp :: (.int .i64 z0) :: skU 107 [])) [(.box true 64 (.agg [(.sl 1 111 0 z1), (.bool z2), (.bool z3), (.int .i64 z4), (.int .i64 z5), (.int .i64 z6)])), (.row true 111 z7)])) (fun z0 z1 z2 z3 z4 z5 z6 z7 z8 z9 z10 z11 z12 => G (.exit 1) (mkSt ((.ptr 0 64 0 []) :: skU 3 ((.ptr 2 57 0 []) :: skU 17 ((.int .i64 z0) :: skU 88 []))) [(.box true 64 (.agg [(.sl 1 111 0 z1), (.bool z2), (.bool z3), (.int .i64 z4), (.int .i64 z5), (.int .i64 z6)])), (.row true 111 z7), (.box true 57 (.agg [(.ptr 0 64 0 []), (.mapr 3), (.agg [(.int .u64 z8), (.int .i64 z9), (.int .i64 z10), (.int .u32 z11)]), (.int .i64 z12), (.int .u64 af), (.bool ag)])), (.map false 9 77 x3)])) n t22 ae ah ai aj ak al x1 aa ab ac ad am
  | 0, _, _, _, _, _, _, _, _, _, _, _, _, _ => rfl
  | n + 1, t22, ae, ah, ai, aj, ak, al, x1, aa, ab, ac, ad, am => (S7_7_eq t22 ae ah ai aj ak al x1 aa ab ac ad am af ag x3 (fun e s => match e with | .normal => evLoop C7 (codeOf Try.f7 [1, 1, 1, 0, 1, 0, 0]) n s G | .exit id => G (.exit id) s | .ret => G .ret s)).trans (congrArg (fun q => S7_7 af ag x3 t22 ae ah ai aj ak al x1 aa ab ac ad am q (fun z0 z1 z2 z3 z4 z5 z6 z7 => G .ret (mkSt (skU 2 (.nilp :: (.int .i64 z0) :: skU 107 [])) [(.box true 64 (.agg [(.sl 1 111 0 z1), (.bool z2), (.bool z3), (.int .i64 z4), (.int .i64 z5), (.int .i64 z6)])), (.row true 111 z7)])) (fun z0 z1 z2 z3 z4 z5 z6 z7 z8 z9 z10 z11 z12 => G (.exit 1) (mkSt ((.ptr 0 64 0 []) :: skU 3 ((.ptr 2 57 0 []) :: skU 17 ((.int .i64 z0) :: skU 88 []))) [(.box true 64 (.agg [(.sl 1 111 0 z1), (.bool z2), (.bool z3), (.int .i64 z4), (.int .i64 z5), (.int .i64 z6)])), (.row true 111 z7), (.box true 57 (.agg [(.ptr 0 64 0 []), (.mapr 3), (.agg [(.int .u64 z8), (.int .i64 z9), (.int .i64 z10), (.int .u32 z11)]), (.int .i64 z12), (.int .u64 af), (.bool ag)])), (.map false 9 77 x3)]))) (funext fun t22 => funext fun ae => funext fun ah => funext fun ai => funext fun aj => funext fun ak => funext fun al => funext fun x1 => funext fun aa => funext fun ab => funext fun ac => funext fun ad => funext fun am => R7_7_eq af ag x3 G n t22 ae ah ai aj ak al x1 aa ab ac ad am))
theorem R7_7_eqK (ae : Int) (af : Bool) (x3 : List PV) (K : Ex → List PV → List Blk → Prop) (n : Nat) (t22 : Int) (ag : Nat) (ah : Bool) (ai : Bool) (aj : Int) (ak : Int) (al : Int) (x1 : List PV) (aa : Int) (ab : Int) (ac : Int) (ad : Int) (am : Int) : R7_7 ae af x3 (fun z0 z1 z2 z3 z4 z5 z6 z7 => K .ret (skU 2 (.nilp :: (.int .i64 z0) :: skU 107 [])) [(.box true 64 (.agg [(.sl 1 111 0 z1), (.bool z2), (.bool z3), (.int .i64 z4), (.int .i64 z5), (.int .i64 z6)])), (.row true 111 z7)]) (fun z0 z1 z2 z3 z4 z5 z6 z7 z8 z9 z10 z11 z12 => K (.exit 1) ((.ptr 0 64 0 []) :: skU 3 ((.ptr 2 57 0 []) :: skU 17 ((.int .i64 z0) :: skU 88 []))) [(.box true 64 (.agg [(.sl 1 111 0 z1), (.bool z2), (.bool z3), (.int .i64 z4), (.int .i64 z5), (.int .i64 z6)])), (.row true 111 z7), (.box true 57 (.agg [(.ptr 0 64 0 []), (.mapr 3), (.agg [(.int .u64 z8), (.int .i64 z9), (.int .i64 z10), (.int .u32 z11)]), (.int .i64 z12), (.int .u64 ae), (.bool af)])), (.map false 9 77 x3)]) n t22 ag ah ai aj ak al x1 aa ab ac ad am = evLoop C7 (codeOf Try.f7 [1, 1, 1, 0, 1, 0, 0]) n (mkSt ((.ptr 0 64 0 []) :: skU 3 ((.ptr 2 57 0 []) :: skU 17 ((.int .i64 t22) :: skU 88 []))) [(.box true 64 (.agg [(.sl 1 111 0 ag), (.bool ah), (.bool ai), (.int .i64 aj), (.int .i64 ak), (.int .i64 al)])), (.row true 111 x1), (.box true 57 (.agg [(.ptr 0 64 0 []), (.mapr 3), (.agg [(.int .u64 aa), (.int .i64 ab), (.int .i64 ac), (.int .u32 ad)]), (.int .i64 am), (.int .u64 ae), (.bool af)])), (.map false 9 77 x3)]) (onSt K) := ((R7_7_eq ae af x3 (onSt K) n t22 ag ah ai aj ak al x1 aa ab ac ad am).trans (by kernel_rfl)).symm
theorem Q7_7_ok : LoopOk C7 (codeOf Try.f7 [1, 1, 1, 0, 1, 0, 0]) := LoopOk.of (l := Q7_7) (by kernel_rfl) (fun t bs K h0 => by
    unfold Q7_7 at h0
    obtain ⟨r2, rfl, h2⟩ := pI h0
    obtain ⟨r3, rfl, h3⟩ := skipU_inv h2
    obtain ⟨r5, rfl, h5⟩ := pI h3
    obtain ⟨r6, rfl, h6⟩ := skipU_inv h5
    obtain ⟨t22, r8, rfl, h8⟩ := iI h6
    obtain ⟨r9, rfl, h9⟩ := skipU_inv h8
    obtain ⟨rfl, h10⟩ := nilK_inv h9
    obtain ⟨r13, r11, rfl, h13⟩ := bA h10
    obtain ⟨ae, r15, rfl, h15⟩ := zI h13
    obtain ⟨af, r17, rfl, h17⟩ := bI h15
    obtain ⟨ag, r19, rfl, h19⟩ := bI h17
    obtain ⟨ah, r21, rfl, h21⟩ := iI h19
    obtain ⟨ai, r23, rfl, h23⟩ := iI h21
    obtain ⟨aj, r25, rfl, h25⟩ := iI h23
    obtain ⟨rfl, h26⟩ := nilK_inv h25
    obtain ⟨x1, r27, rfl, h28⟩ := bR h26
    obtain ⟨r31, r29, rfl, h31⟩ := bA h28
    obtain ⟨r33, rfl, h33⟩ := pI h31
    obtain ⟨r35, rfl, h35⟩ := mI h33
    obtain ⟨r38, r37, rfl, h37⟩ := aI h35
    obtain ⟨aa, r40, rfl, h39⟩ := iI h37
    obtain ⟨ab, r42, rfl, h41⟩ := iI h39
    obtain ⟨ac, r44, rfl, h43⟩ := iI h41
    obtain ⟨ad, r46, rfl, h45⟩ := iI h43
    obtain ⟨rfl, h46⟩ := nilK_inv h45
    obtain ⟨ak, r48, rfl, h48⟩ := iI h46
    obtain ⟨al, r50, rfl, h50⟩ := iI h48
    obtain ⟨am, r52, rfl, h52⟩ := bI h50
    obtain ⟨rfl, h53⟩ := nilK_inv h52
    obtain ⟨x3, r54, rfl, h55⟩ := bM h53
    obtain ⟨rfl, h56⟩ := bNilK_inv h55
    have h := h56
    obtain ⟨n, hn⟩ := h
    refine ⟨n, ?_⟩
    rw [← R7_7_eqK al am x3 K n t22 ae af ag ah ai aj x1 aa ab ac ad ak]
    exact hn)
theorem J7_24_eq (t8 : List PV) (aa : Nat) (af : Bool) (ag : Bool) (ah : Int) (ai : Int) (aj : Int) (x1 : List PV) (ab : Int) (ac : Int) (ad : Int) (ae : Int) (ak : Int) (al : Int) (am : Bool) (x3 : List PV) (K : Ex → List PV → List Blk → Prop) : J7_24 t8 aa af ag ah ai aj x1 ab ac ad ae ak al am x3 (K .ret (skU 2 (.nilp :: (.int .i64 4) :: skU 107 [])) [(.box true 64 (.agg [(.sl 1 111 0 aa), (.bool af), (.bool ag), (.int .i64 ah), (.int .i64 ai), (.int .i64 aj)])), (.row true 111 x1)]) (fun z15 => K .ret (skU 2 ((.ptr 2 57 0 []) :: (.int .i64 0) :: skU 107 [])) [(.box true 64 (.agg [(.sl 1 111 0 aa), (.bool af), (.bool ag), (.int .i64 ah), (.int .i64 ai), (.int .i64 aj)])), (.row true 111 x1), (.box true 57 (.agg [(.ptr 0 64 0 []), (.mapr 3), (.agg [(.int .u64 ab), (.int .i64 ac), (.int .i64 ad), (.int .u32 ae)]), (.int .i64 ak), (.int .u64 al), (.bool am)])), (.map false 9 77 z15)]) = evC C7 (codeOf Try.f7 [1, 1, 1, 1, 1, 1, 1, 1, 1, 1]) (mkSt (skU 4 ((.ptr 2 57 0 []) :: skU 3 ((.list 5 t8) :: skU 102 []))) [(.box true 64 (.agg [(.sl 1 111 0 aa), (.bool af), (.bool ag), (.int .i64 ah), (.int .i64 ai), (.int .i64 aj)])), (.row true 111 x1), (.box true 57 (.agg [(.ptr 0 64 0 []), (.mapr 3), (.agg [(.int .u64 ab), (.int .i64 ac), (.int .i64 ad), (.int .u32 ae)]), (.int .i64 ak), (.int .u64 al), (.bool am)])), (.map false 9 77 x3)]) (onSt K) := by kernel_rfl
theorem Q7_24_ok : RestOk C7 (codeOf Try.f7 [1, 1, 1, 1, 1, 1, 1, 1, 1, 1]) := RestOk.to (l := Q7_24) (by kernel_rfl) (by
    intro t bs K h0
    unfold Q7_24 at h0
    obtain ⟨r1, rfl, h1⟩ := skipU_inv h0
    obtain ⟨r3, rfl, h3⟩ := pI h1
    obtain ⟨r4, rfl, h4⟩ := skipU_inv h3
    obtain ⟨t8, r6, rfl, h6⟩ := lI h4
    obtain ⟨r7, rfl, h7⟩ := skipU_inv h6
    obtain ⟨rfl, h8⟩ := nilK_inv h7
    obtain ⟨r11, r9, rfl, h11⟩ := bA h8
    obtain ⟨ae, r13, rfl, h13⟩ := zI h11
    obtain ⟨af, r15, rfl, h15⟩ := bI h13
    obtain ⟨ag, r17, rfl, h17⟩ := bI h15
    obtain ⟨ah, r19, rfl, h19⟩ := iI h17
    obtain ⟨ai, r21, rfl, h21⟩ := iI h19
    obtain ⟨aj, r23, rfl, h23⟩ := iI h21
    obtain ⟨rfl, h24⟩ := nilK_inv h23
    obtain ⟨x1, r25, rfl, h26⟩ := bR h24
    obtain ⟨r29, r27, rfl, h29⟩ := bA h26
    obtain ⟨r31, rfl, h31⟩ := pI h29
    obtain ⟨r33, rfl, h33⟩ := mI h31
    obtain ⟨r36, r35, rfl, h35⟩ := aI h33
    obtain ⟨aa, r38, rfl, h37⟩ := iI h35
    obtain ⟨ab, r40, rfl, h39⟩ := iI h37
    obtain ⟨ac, r42, rfl, h41⟩ := iI h39
    obtain ⟨ad, r44, rfl, h43⟩ := iI h41
    obtain ⟨rfl, h44⟩ := nilK_inv h43
    obtain ⟨ak, r46, rfl, h46⟩ := iI h44
    obtain ⟨al, r48, rfl, h48⟩ := iI h46
    obtain ⟨am, r50, rfl, h50⟩ := bI h48
    obtain ⟨rfl, h51⟩ := nilK_inv h50
    obtain ⟨x3, r52, rfl, h53⟩ := bM h51
    obtain ⟨rfl, h54⟩ := bNilK_inv h53
    have h := h54
    refine ⟨_, _, rfl, rfl, ?_⟩
    rw [← J7_24_eq t8 ae af ag ah ai aj x1 aa ab ac ad ak al am x3 K]
    exact h)
theorem J7_19_eq (t8 : List PV) (t9 : Int) (aa : Nat) (af : Bool) (ag : Bool) (ah : Int) (ai : Int) (aj : Int) (x1 : List PV) (ab : Int) (ac : Int) (ad : Int) (ae : Int) (ak : Int) (al : Int) (am : Bool) (x3 : List PV) (K : Ex → List PV → List Blk → Prop) : J7_19 t8 t9 aa af ag ah ai aj x1 ab ac ad ae ak al am x3 (fun z0 => K .ret (skU 2 (.nilp :: (.int .i64 z0) :: skU 107 [])) [(.box true 64 (.agg [(.sl 1 111 0 aa), (.bool af), (.bool ag), (.int .i64 ah), (.int .i64 ai), (.int .i64 aj)])), (.row true 111 x1)]) (fun z15 => K .ret (skU 2 ((.ptr 2 57 0 []) :: (.int .i64 0) :: skU 107 [])) [(.box true 64 (.agg [(.sl 1 111 0 aa), (.bool af), (.bool ag), (.int .i64 ah), (.int .i64 ai), (.int .i64 aj)])), (.row true 111 x1), (.box true 57 (.agg [(.ptr 0 64 0 []), (.mapr 3), (.agg [(.int .u64 ab), (.int .i64 ac), (.int .i64 ad), (.int .u32 ae)]), (.int .i64 ak), (.int .u64 al), (.bool am)])), (.map false 9 77 z15)]) = evC C7 (codeOf Try.f7 [1, 1, 1, 1, 1, 1, 1]) (mkSt (skU 4 ((.ptr 2 57 0 []) :: skU 3 ((.list 5 t8) :: (.int .i64 t9) :: skU 101 []))) [(.box true 64 (.agg [(.sl 1 111 0 aa), (.bool af), (.bool ag), (.int .i64 ah), (.int .i64 ai), (.int .i64 aj)])), (.row true 111 x1), (.box true 57 (.agg [(.ptr 0 64 0 []), (.mapr 3), (.agg [(.int .u64 ab), (.int .i64 ac), (.int .i64 ad), (.int .u32 ae)]), (.int .i64 ak), (.int .u64 al), (.bool am)])), (.map false 9 77 x3)]) (onSt K) := by kernel_rfl
theorem Q7_19_ok : RestOk C7 (codeOf Try.f7 [1, 1, 1, 1, 1, 1, 1]) := RestOk.to (l := Q7_19) (by kernel_rfl) (by
    intro t bs K h0
    unfold Q7_19 at h0
    obtain ⟨r1, rfl, h1⟩ := skipU_inv h0
    obtain ⟨r3, rfl, h3⟩ := pI h1
    obtain ⟨r4, rfl, h4⟩ := skipU_inv h3
    obtain ⟨t8, r6, rfl, h6⟩ := lI h4
    obtain ⟨t9, r8, rfl, h8⟩ := iI h6
    obtain ⟨r9, rfl, h9⟩ := skipU_inv h8
    obtain ⟨rfl, h10⟩ := nilK_inv h9
    obtain ⟨r13, r11, rfl, h13⟩ := bA h10
    obtain ⟨ae, r15, rfl, h15⟩ := zI h13
    obtain ⟨af, r17, rfl, h17⟩ := bI h15
    obtain ⟨ag, r19, rfl, h19⟩ := bI h17
    obtain ⟨ah, r21, rfl, h21⟩ := iI h19
    obtain ⟨ai, r23, rfl, h23⟩ := iI h21
    obtain ⟨aj, r25, rfl, h25⟩ := iI h23
    obtain ⟨rfl, h26⟩ := nilK_inv h25
    obtain ⟨x1, r27, rfl, h28⟩ := bR h26
    obtain ⟨r31, r29, rfl, h31⟩ := bA h28
    obtain ⟨r33, rfl, h33⟩ := pI h31
    obtain ⟨r35, rfl, h35⟩ := mI h33
    obtain ⟨r38, r37, rfl, h37⟩ := aI h35
    obtain ⟨aa, r40, rfl, h39⟩ := iI h37
    obtain ⟨ab, r42, rfl, h41⟩ := iI h39
    obtain ⟨ac, r44, rfl, h43⟩ := iI h41
    obtain ⟨ad, r46, rfl, h45⟩ := iI h43
    obtain ⟨rfl, h46⟩ := nilK_inv h45
    obtain ⟨ak, r48, rfl, h48⟩ := iI h46
    obtain ⟨al, r50, rfl, h50⟩ := iI h48
    obtain ⟨am, r52, rfl, h52⟩ := bI h50
    obtain ⟨rfl, h53⟩ := nilK_inv h52
    obtain ⟨x3, r54, rfl, h55⟩ := bM h53
    obtain ⟨rfl, h56⟩ := bNilK_inv h55
    have h := h56
    refine ⟨_, _, rfl, rfl, ?_⟩
    rw [← J7_19_eq t8 t9 ae af ag ah ai aj x1 aa ab ac ad ak al am x3 K]
    exact h)
theorem B7_eq (dn : Nat) (off : Bool) (cut : Bool) (whole : Int) (kept : Int) (writes : Int) (secs : List PV) (K : List Blk → List PV → Prop) : evF C7 Try.f7 [(.box true 64 (.agg [(.sl 1 111 0 dn), (.bool off), (.bool cut), (.int .i64 whole), (.int .i64 kept), (.int .i64 writes)])), (.row true 111 secs)] [(.ptr 0 64 0 [])] K = (([(.box true 64 (.agg [(.sl 1 111 0 dn), (.bool off), (.bool cut), (.int .i64 whole), (.int .i64 kept), (.int .i64 writes)])), (.row true 111 secs)] : List Blk).length = 2 ∧ B7 dn off cut whole kept writes secs (fun z0 z1 z2 z3 z4 z5 z6 z7 => K [(.box true 64 (.agg [(.sl 1 111 0 z1), (.bool z2), (.bool z3), (.int .i64 z4), (.int .i64 z5), (.int .i64 z6)])), (.row true 111 z7)] [.nilp, (.int .i64 z0)]) (fun z0 z1 z2 z3 z4 z5 z6 z7 z8 z9 z10 z11 z12 z13 => K [(.box true 64 (.agg [(.sl 1 111 0 z0), (.bool z1), (.bool z2), (.int .i64 z3), (.int .i64 z4), (.int .i64 z5)])), (.row true 111 z6), (.box true 57 (.agg [(.ptr 0 64 0 []), (.mapr 3), (.agg [(.int .u64 z7), (.int .i64 z8), (.int .i64 z9), (.int .u32 z10)]), (.int .i64 z11), (.int .u64 z12), (.bool false)])), (.map false 9 77 z13)] [(.ptr 2 57 0 []), (.int .i64 0)])) := by kernel_rfl
theorem W7_of (hT : AllSound Try.prog pvT pvG T7) : Sound Try.prog pvT pvG 7 W7 := Sound.weak (evF_sound (C := C7) (Base.of pvT_fits pvT_sized pvT_eq hT pvMixed pvIt_ok) Try.func7 (LoopsOk.of (C := C7) (fn := Try.f7) (l := [codeOf Try.f7 [1, 1, 1, 0, 1, 0, 0]]) (r := [codeOf Try.f7 [1], codeOf Try.f7 [1, 1], codeOf Try.f7 [1, 0, 0, 1], codeOf Try.f7 [1, 0, 0, 1, 0, 1], codeOf Try.f7 [1, 0, 0, 1, 1, 1], codeOf Try.f7 [1, 0, 0, 1, 1, 1, 0, 1], codeOf Try.f7 [1, 1, 1], codeOf Try.f7 [1, 1, 1, 1], codeOf Try.f7 [1, 1, 1, 0, 1], codeOf Try.f7 [1, 1, 1, 0, 1, 0, 0, 1], codeOf Try.f7 [1, 1, 1, 0, 1, 0, 0, 1, 1], codeOf Try.f7 [1, 1, 1, 0, 1, 0, 0, 1, 1, 1], codeOf Try.f7 [1, 1, 1, 0, 1, 0, 0, 1, 1, 0, 0, 1], codeOf Try.f7 [1, 1, 1, 0, 1, 0, 0, 1, 1, 0, 0, 1, 1], codeOf Try.f7 [1, 1, 1, 0, 1, 0, 0, 1, 1, 0, 0, 1, 1, 1], codeOf Try.f7 [1, 1, 1, 0, 1, 0, 0, 1, 1, 0, 0, 1, 1, 0, 1], codeOf Try.f7 [1, 1, 1, 0, 1, 0, 0, 1, 1, 0, 0, 1, 1, 0, 1, 0, 1], codeOf Try.f7 [1, 1, 1, 0, 1, 0, 0, 1, 1, 0, 0, 1, 1, 1, 1], codeOf Try.f7 [1, 1, 1, 1, 1], codeOf Try.f7 [1, 1, 1, 1, 1, 1], codeOf Try.f7 [1, 1, 1, 1, 1, 0, 1], codeOf Try.f7 [1, 1, 1, 1, 1, 0, 1, 0, 1], codeOf Try.f7 [1, 1, 1, 1, 1, 1, 1], codeOf Try.f7 [1, 1, 1, 1, 1, 1, 1, 1], codeOf Try.f7 [1, 1, 1, 1, 1, 1, 1, 0, 1], codeOf Try.f7 [1, 1, 1, 1, 1, 1, 1, 0, 1, 0, 1], codeOf Try.f7 [1, 1, 1, 1, 1, 1, 1, 1, 1], codeOf Try.f7 [1, 1, 1, 1, 1, 1, 1, 1, 1, 1], codeOf Try.f7 [1, 1, 1, 1, 1, 1, 1, 1, 1, 0, 1], codeOf Try.f7 [1, 1, 1, 1, 1, 1, 1, 1, 1, 0, 1, 0, 1], codeOf Try.f7 [1, 1, 1, 1, 1, 1, 1, 1, 1, 1, 1], codeOf Try.f7 [1, 1, 1, 1, 1, 1, 1, 1, 1, 1, 0, 1], codeOf Try.f7 [1, 1, 1, 1, 1, 1, 1, 1, 1, 1, 0, 1, 1], codeOf Try.f7 [1, 1, 1, 1, 1, 1, 1, 1, 1, 1, 0, 1, 1, 0, 1], codeOf Try.f7 [1, 1, 1, 1, 1, 1, 1, 1, 1, 1, 1, 1]]) (g := []) (by kernel_rfl) (by kernel_rfl) (by kernel_rfl) ⟨Q7_7_ok, trivial⟩ ⟨(RestOk.none (by kernel_rfl)), ⟨(RestOk.none (by kernel_rfl)), ⟨(RestOk.none (by kernel_rfl)), ⟨(RestOk.none (by kernel_rfl)), ⟨(RestOk.none (by kernel_rfl)), ⟨(RestOk.none (by kernel_rfl)), ⟨(RestOk.none (by kernel_rfl)), ⟨(RestOk.none (by kernel_rfl)), ⟨(RestOk.none (by kernel_rfl)), ⟨(RestOk.none (by kernel_rfl)), ⟨(RestOk.none (by kernel_rfl)), ⟨(RestOk.none (by kernel_rfl)), ⟨(RestOk.none (by kernel_rfl)), ⟨(RestOk.none (by kernel_rfl)), ⟨(RestOk.none (by kernel_rfl)), ⟨(RestOk.none (by kernel_rfl)), ⟨(RestOk.none (by kernel_rfl)), ⟨(RestOk.none (by kernel_rfl)), ⟨(RestOk.none (by kernel_rfl)), ⟨(RestOk.none (by kernel_rfl)), ⟨(RestOk.none (by kernel_rfl)), ⟨(RestOk.none (by kernel_rfl)), ⟨Q7_19_ok, ⟨(RestOk.none (by kernel_rfl)), ⟨(RestOk.none (by kernel_rfl)), ⟨(RestOk.none (by kernel_rfl)), ⟨(RestOk.none (by kernel_rfl)), ⟨Q7_24_ok, ⟨(RestOk.none (by kernel_rfl)), ⟨(RestOk.none (by kernel_rfl)), ⟨(RestOk.none (by kernel_rfl)), ⟨(RestOk.none (by kernel_rfl)), ⟨(RestOk.none (by kernel_rfl)), ⟨(RestOk.none (by kernel_rfl)), ⟨(RestOk.none (by kernel_rfl)), trivial⟩⟩⟩⟩⟩⟩⟩⟩⟩⟩⟩⟩⟩⟩⟩⟩⟩⟩⟩⟩⟩⟩⟩⟩⟩⟩⟩⟩⟩⟩⟩⟩⟩⟩⟩ trivial) (evF_to (C := C7) (fun bs t K h0 => by
    unfold P7 at h0
    obtain ⟨r2, rfl, h2⟩ := pI h0
    obtain ⟨rfl, h3⟩ := nilK_inv h2
    obtain ⟨r6, r4, rfl, h6⟩ := bA h3
    obtain ⟨dn, r8, rfl, h8⟩ := zI h6
    obtain ⟨off, r10, rfl, h10⟩ := bI h8
    obtain ⟨cut, r12, rfl, h12⟩ := bI h10
    obtain ⟨whole, r14, rfl, h14⟩ := iI h12
    obtain ⟨kept, r16, rfl, h16⟩ := iI h14
    obtain ⟨writes, r18, rfl, h18⟩ := iI h16
    obtain ⟨rfl, h19⟩ := nilK_inv h18
    obtain ⟨secs, r20, rfl, h21⟩ := bR h19
    obtain ⟨rfl, h22⟩ := bNilK_inv h21
    have h := h22
    refine ⟨_, _, rfl, rfl, ?_⟩
    rw [B7_eq dn off cut whole kept writes secs K]
    exact ⟨rfl, h⟩))) _
end Pv

namespace Pv
open Go Go.Proofs

theorem S25_5_eq (out6n : Nat) (t26i : Nat) (t26n : Nat) (t27 : Int) (t28 : Int) (aa : Nat) (ab : Bool) (ac : Bool) (ad : Int) (ae : Int) (af : Int) (x1 : List PV) (x2 : List PV) (G : Ex → St → Prop) : evC C25 (codeOf Try.f25 [1, 1, 0, 1, 0, 0]) (mkSt (skU 6 ((.sl 2 5 0 out6n) :: skU 19 ((.sl 1 111 t26i t26n) :: (.int .i64 t27) :: (.int .i64 t28) :: skU 8 []))) [(.box true 64 (.agg [(.sl 1 111 0 aa), (.bool ab), (.bool ac), (.int .i64 ad), (.int .i64 ae), (.int .i64 af)])), (.row true 111 x1), (.row true 5 x2)]) G = S25_5 t26i t26n t27 aa ab ac ad ae af x1 out6n t28 x2 (fun out6n t28 x2 => G .normal (mkSt (skU 6 ((.sl 2 5 0 out6n) :: skU 19 ((.sl 1 111 t26i t26n) :: (.int .i64 t27) :: (.int .i64 t28) :: skU 8 []))) [(.box true 64 (.agg [(.sl 1 111 0 aa), (.bool ab), (.bool ac), (.int .i64 ad), (.int .i64 ae), (.int .i64 af)])), (.row true 111 x1), (.row true 5 x2)])) (fun z0 z4 z12 => G (.exit 0) (mkSt (skU 6 ((.sl 2 5 0 z0) :: skU 19 ((.sl 1 111 t26i t26n) :: (.int .i64 t27) :: (.int .i64 z4) :: skU 8 []))) [(.box true 64 (.agg [(.sl 1 111 0 aa), (.bool ab), (.bool ac), (.int .i64 ad), (.int .i64 ae), (.int .i64 af)])), (.row true 111 x1), (.row true 5 z12)])) := by kernel_rfl
theorem R25_5_eq (t26i : Nat) (t26n : Nat) (t27 : Int) (aa : Nat) (ab : Bool) (ac : Bool) (ad : Int) (ae : Int) (af : Int) (x1 : List PV) (G : Ex → St → Prop) : ∀ (n : Nat) (out6n : Nat) (t28 : Int) (x2 : List PV), evLoop C25 (codeOf Try.f25 [1, 1, 0, 1, 0, 0]) n (mkSt (skU 6 ((.sl 2 5 0 out6n) :: skU 19 ((.sl 1 111 t26i t26n) :: (.int .i64 t27) :: (.int .i64 t28) :: skU 8 []))) [(.box true 64 (.agg [(.sl 1 111 0 aa), (.bool ab), (.bool ac), (.int .i64 ad), (.int .i64 ae), (.int .i64 af)])), (.row true 111 x1), (.row true 5 x2)]) G = R25_5 t26i t26n t27 aa ab ac ad ae af x1 (fun z0 z4 z12 => G (.exit 0) (mkSt (skU 6 ((.sl 2 5 0 z0) :: skU 19 ((.sl 1 111 t26i t26n) :: (.int .i64 t27) :: (.int .i64 z4) :: skU 8 []))) [(.box true 64 (.agg [(.sl 1 111 0 aa), (.bool ab), (.bool ac), (.int .i64 ad), (.int .i64 ae), (.int .i64 af)])), (.row true 111 x1), (.row true 5 z12)])) n out6n t28 x2
  | 0, _, _, _ => rfl
  | n + 1, out6n, t28, x2 => (S25_5_eq out6n t26i t26n t27 t28 aa ab ac ad ae af x1 x2 (fun e s => match e with | .normal => evLoop C25 (codeOf Try.f25 [1, 1, 0, 1, 0, 0]) n s G | .exit id => G (.exit id) s | .ret => G .ret s)).trans (congrArg (fun q => S25_5 t26i t26n t27 aa ab ac ad ae af x1 out6n t28 x2 q (fun z0 z4 z12 => G (.exit 0) (mkSt (skU 6 ((.sl 2 5 0 z0) :: skU 19 ((.sl 1 111 t26i t26n) :: (.int .i64 t27) :: (.int .i64 z4) :: skU 8 []))) [(.box true 64 (.agg [(.sl 1 111 0 aa), (.bool ab), (.bool ac), (.int .i64 ad), (.int .i64 ae), (.int .i64 af)])), (.row true 111 x1), (.row true 5 z12)]))) (funext fun out6n => funext fun t28 => funext fun x2 => R25_5_eq t26i t26n t27 aa ab ac ad ae af x1 G n out6n t28 x2))
theorem R25_5_eqK (t26i : Nat) (t26n : Nat) (t27 : Int) (aa : Nat) (ab : Bool) (ac : Bool) (ad : Int) (ae : Int) (af : Int) (x1 : List PV) (K : Ex → List PV → List Blk → Prop) (n : Nat) (out6n : Nat) (t28 : Int) (x2 : List PV) : R25_5 t26i t26n t27 aa ab ac ad ae af x1 (fun z0 z4 z12 => K (.exit 0) (skU 6 ((.sl 2 5 0 z0) :: skU 19 ((.sl 1 111 t26i t26n) :: (.int .i64 t27) :: (.int .i64 z4) :: skU 8 []))) [(.box true 64 (.agg [(.sl 1 111 0 aa), (.bool ab), (.bool ac), (.int .i64 ad), (.int .i64 ae), (.int .i64 af)])), (.row true 111 x1), (.row true 5 z12)]) n out6n t28 x2 = evLoop C25 (codeOf Try.f25 [1, 1, 0, 1, 0, 0]) n (mkSt (skU 6 ((.sl 2 5 0 out6n) :: skU 19 ((.sl 1 111 t26i t26n) :: (.int .i64 t27) :: (.int .i64 t28) :: skU 8 []))) [(.box true 64 (.agg [(.sl 1 111 0 aa), (.bool ab), (.bool ac), (.int .i64 ad), (.int .i64 ae), (.int .i64 af)])), (.row true 111 x1), (.row true 5 x2)]) (onSt K) := ((R25_5_eq t26i t26n t27 aa ab ac ad ae af x1 (onSt K) n out6n t28 x2).trans (by kernel_rfl)).symm
theorem Q25_5_ok : LoopOk C25 (codeOf Try.f25 [1, 1, 0, 1, 0, 0]) := LoopOk.of (l := Q25_5) (by kernel_rfl) (fun t bs K h0 => by
    unfold Q25_5 at h0
    obtain ⟨r1, rfl, h1⟩ := skipU_inv h0
    obtain ⟨out6n, r3, rfl, h3⟩ := zI h1
    obtain ⟨r4, rfl, h4⟩ := skipU_inv h3
    obtain ⟨r5, r6, rfl, h5⟩ := consK_inv h4
    obtain ⟨t26i, t26n, rfl, h6⟩ := slK_inv h5
    obtain ⟨t27, r8, rfl, h8⟩ := iI h6
    obtain ⟨t28, r10, rfl, h10⟩ := iI h8
    obtain ⟨r11, rfl, h11⟩ := skipU_inv h10
    obtain ⟨rfl, h12⟩ := nilK_inv h11
    obtain ⟨r15, r13, rfl, h15⟩ := bA h12
    obtain ⟨aa, r17, rfl, h17⟩ := zI h15
    obtain ⟨ab, r19, rfl, h19⟩ := bI h17
    obtain ⟨ac, r21, rfl, h21⟩ := bI h19
    obtain ⟨ad, r23, rfl, h23⟩ := iI h21
    obtain ⟨ae, r25, rfl, h25⟩ := iI h23
    obtain ⟨af, r27, rfl, h27⟩ := iI h25
    obtain ⟨rfl, h28⟩ := nilK_inv h27
    obtain ⟨x1, r29, rfl, h30⟩ := bR h28
    obtain ⟨x2, r31, rfl, h32⟩ := bR h30
    obtain ⟨rfl, h33⟩ := bNilK_inv h32
    have h := h33
    obtain ⟨n, hn⟩ := h
    refine ⟨n, ?_⟩
    rw [← R25_5_eqK t26i t26n t27 aa ab ac ad ae af x1 K n out6n t28 x2]
    exact hn)
theorem B25_eq (uat : Int) (many : Int) (dn : Nat) (off : Bool) (cut : Bool) (whole : Int) (kept : Int) (writes : Int) (secs : List PV) (K : List Blk → List PV → Prop) : evF C25 Try.f25 [(.box true 64 (.agg [(.sl 1 111 0 dn), (.bool off), (.bool cut), (.int .i64 whole), (.int .i64 kept), (.int .i64 writes)])), (.row true 111 secs)] [(.ptr 0 64 0 []), (.int .i64 uat), (.int .i64 many)] K = (([(.box true 64 (.agg [(.sl 1 111 0 dn), (.bool off), (.bool cut), (.int .i64 whole), (.int .i64 kept), (.int .i64 writes)])), (.row true 111 secs)] : List Blk).length = 2 ∧ B25 uat many dn off cut whole kept writes secs (fun z0 z1 z2 z3 z4 z5 z6 z7 z8 => K [(.box true 64 (.agg [(.sl 1 111 0 z2), (.bool z3), (.bool z4), (.int .i64 z5), (.int .i64 z6), (.int .i64 z7)])), (.row true 111 z8)] [(.list 5 z0), (.int .i64 z1)])) := by kernel_rfl
theorem W25_of (hT : AllSound Try.prog pvT pvG T25) : Sound Try.prog pvT pvG 25 W25 := Sound.weak (evF_sound (C := C25) (Base.of pvT_fits pvT_sized pvT_eq hT pvMixed pvIt_ok) Try.func25 (LoopsOk.of (C := C25) (fn := Try.f25) (l := [codeOf Try.f25 [1, 1, 0, 1, 0, 0]]) (g := []) (by kernel_rfl) rfl (by kernel_rfl) ⟨Q25_5_ok, trivial⟩ (RestOk.all rfl _) trivial) (evF_to (C := C25) (fun bs t K h0 => by
    unfold P25 at h0
    obtain ⟨r2, rfl, h2⟩ := pI h0
    obtain ⟨uat, r4, rfl, h4⟩ := iI h2
    obtain ⟨many, r6, rfl, h6⟩ := iI h4
    obtain ⟨rfl, h7⟩ := nilK_inv h6
    obtain ⟨r10, r8, rfl, h10⟩ := bA h7
    obtain ⟨dn, r12, rfl, h12⟩ := zI h10
    obtain ⟨off, r14, rfl, h14⟩ := bI h12
    obtain ⟨cut, r16, rfl, h16⟩ := bI h14
    obtain ⟨whole, r18, rfl, h18⟩ := iI h16
    obtain ⟨kept, r20, rfl, h20⟩ := iI h18
    obtain ⟨writes, r22, rfl, h22⟩ := iI h20
    obtain ⟨rfl, h23⟩ := nilK_inv h22
    obtain ⟨secs, r24, rfl, h25⟩ := bR h23
    obtain ⟨rfl, h26⟩ := bNilK_inv h25
    have h := h26
    refine ⟨_, _, rfl, rfl, ?_⟩
    rw [B25_eq uat many dn off cut whole kept writes secs K]
    exact ⟨rfl, h⟩))) _
end Pv

namespace Pv
open Go Go.Proofs

theorem S54_12_eq (n1 : Int) (out5n : Nat) (t34 : Int) (t35 : Int) (x0 : List PV) (G : Ex → St → Prop) : evC C54 (codeOf Try.f54 [1, 1, 1, 1, 0, 1, 0, 0]) (mkSt (skU 1 ((.int .u64 n1) :: skU 3 ((.sl 0 5 0 out5n) :: skU 28 ((.int .i64 t34) :: (.int .i64 t35) :: skU 12 [])))) [(.row true 5 x0)]) G = S54_12 n1 t34 out5n t35 x0 (fun out5n t35 x0 => G .normal (mkSt (skU 1 ((.int .u64 n1) :: skU 3 ((.sl 0 5 0 out5n) :: skU 28 ((.int .i64 t34) :: (.int .i64 t35) :: skU 12 [])))) [(.row true 5 x0)])) (fun z1 z3 z4 => G (.exit 1) (mkSt (skU 1 ((.int .u64 n1) :: skU 3 ((.sl 0 5 0 z1) :: skU 28 ((.int .i64 t34) :: (.int .i64 z3) :: skU 12 [])))) [(.row true 5 z4)])) := by kernel_rfl
theorem R54_12_eq (n1 : Int) (t34 : Int) (G : Ex → St → Prop) : ∀ (n : Nat) (out5n : Nat) (t35 : Int) (x0 : List PV), evLoop C54 (codeOf Try.f54 [1, 1, 1, 1, 0, 1, 0, 0]) n (mkSt (skU 1 ((.int .u64 n1) :: skU 3 ((.sl 0 5 0 out5n) :: skU 28 ((.int .i64 t34) :: (.int .i64 t35) :: skU 12 [])))) [(.row true 5 x0)]) G = R54_12 n1 t34 (fun z1 z3 z4 => G (.exit 1) (mkSt (skU 1 ((.int .u64 n1) :: skU 3 ((.sl 0 5 0 z1) :: skU 28 ((.int .i64 t34) :: (.int .i64 z3) :: skU 12 [])))) [(.row true 5 z4)])) n out5n t35 x0
  | 0, _, _, _ => rfl
  | n + 1, out5n, t35, x0 => (S54_12_eq n1 out5n t34 t35 x0 (fun e s => match e with | .normal => evLoop C54 (codeOf Try.f54 [1, 1, 1, 1, 0, 1, 0, 0]) n s G | .exit id => G (.exit id) s | .ret => G .ret s)).trans (congrArg (fun q => S54_12 n1 t34 out5n t35 x0 q (fun z1 z3 z4 => G (.exit 1) (mkSt (skU 1 ((.int .u64 n1) :: skU 3 ((.sl 0 5 0 z1) :: skU 28 ((.int .i64 t34) :: (.int .i64 z3) :: skU 12 [])))) [(.row true 5 z4)]))) (funext fun out5n => funext fun t35 => funext fun x0 => R54_12_eq n1 t34 G n out5n t35 x0))
theorem R54_12_eqK (n1 : Int) (t34 : Int) (K : Ex → List PV → List Blk → Prop) (n : Nat) (out5n : Nat) (t35 : Int) (x0 : List PV) : R54_12 n1 t34 (fun z1 z3 z4 => K (.exit 1) (skU 1 ((.int .u64 n1) :: skU 3 ((.sl 0 5 0 z1) :: skU 28 ((.int .i64 t34) :: (.int .i64 z3) :: skU 12 [])))) [(.row true 5 z4)]) n out5n t35 x0 = evLoop C54 (codeOf Try.f54 [1, 1, 1, 1, 0, 1, 0, 0]) n (mkSt (skU 1 ((.int .u64 n1) :: skU 3 ((.sl 0 5 0 out5n) :: skU 28 ((.int .i64 t34) :: (.int .i64 t35) :: skU 12 [])))) [(.row true 5 x0)]) (onSt K) := ((R54_12_eq n1 t34 (onSt K) n out5n t35 x0).trans (by kernel_rfl)).symm
theorem Q54_12_ok : LoopOk C54 (codeOf Try.f54 [1, 1, 1, 1, 0, 1, 0, 0]) := LoopOk.of (l := Q54_12) (by kernel_rfl) (fun t bs K h0 => by
    unfold Q54_12 at h0
    obtain ⟨r1, rfl, h1⟩ := skipU_inv h0
    obtain ⟨n1, r3, rfl, h3⟩ := iI h1
    obtain ⟨r4, rfl, h4⟩ := skipU_inv h3
    obtain ⟨out5n, r6, rfl, h6⟩ := zI h4
    obtain ⟨r7, rfl, h7⟩ := skipU_inv h6
    obtain ⟨t34, r9, rfl, h9⟩ := iI h7
    obtain ⟨t35, r11, rfl, h11⟩ := iI h9
    obtain ⟨r12, rfl, h12⟩ := skipU_inv h11
    obtain ⟨rfl, h13⟩ := nilK_inv h12
    obtain ⟨x0, r14, rfl, h15⟩ := bR h13
    obtain ⟨rfl, h16⟩ := bNilK_inv h15
    have h := h16
    obtain ⟨n, hn⟩ := h
    refine ⟨n, ?_⟩
    rw [← R54_12_eqK n1 t34 K n out5n t35 x0]
    exact hn)
theorem J54_11_eq (n1 : Int) (out5n : Nat) (width6 : Int) (x0 : List PV) (K : Ex → List PV → List Blk → Prop) : J54_11 n1 out5n width6 x0 (fun z0 z1 => K .ret (skU 4 ((.sl 0 5 0 z0) :: skU 43 [])) [(.row true 5 z1)]) = evC C54 (codeOf Try.f54 [1, 1, 1, 1]) (mkSt (skU 1 ((.int .u64 n1) :: skU 3 ((.sl 0 5 0 out5n) :: (.int .i64 width6) :: skU 41 []))) [(.row true 5 x0)]) (onSt K) := by kernel_rfl
theorem Q54_11_ok : RestOk C54 (codeOf Try.f54 [1, 1, 1, 1]) := RestOk.to (l := Q54_11) (by kernel_rfl) (by
    intro t bs K h0
    unfold Q54_11 at h0
    obtain ⟨r1, rfl, h1⟩ := skipU_inv h0
    obtain ⟨n1, r3, rfl, h3⟩ := iI h1
    obtain ⟨r4, rfl, h4⟩ := skipU_inv h3
    obtain ⟨out5n, r6, rfl, h6⟩ := zI h4
    obtain ⟨width6, r8, rfl, h8⟩ := iI h6
    obtain ⟨r9, rfl, h9⟩ := skipU_inv h8
    obtain ⟨rfl, h10⟩ := nilK_inv h9
    obtain ⟨x0, r11, rfl, h12⟩ := bR h10
    obtain ⟨rfl, h13⟩ := bNilK_inv h12
    have h := h13
    refine ⟨_, _, rfl, rfl, ?_⟩
    rw [← J54_11_eq n1 out5n width6 x0 K]
    exact h)
theorem B54_eq (b0 : List PV) (n1 : Int) (K : List Blk → List PV → Prop) : evF C54 Try.f54 [] [(.list 5 b0), (.int .u64 n1)] K = (([] : List Blk).length = 0 ∧ B54 b0 n1 (fun z0 z1 => K [(.row true 5 z1)] [(.sl 0 5 0 z0)])) := by kernel_rfl
theorem W54_of (hT : AllSound Try.prog pvT pvG T54) : Sound Try.prog pvT pvG 54 W54 := Sound.weak (evF_sound (C := C54) (Base.of pvT_fits pvT_sized pvT_eq hT pvMixed pvIt_ok) Try.func54 (LoopsOk.of (C := C54) (fn := Try.f54) (l := [codeOf Try.f54 [1, 1, 1, 1, 0, 1, 0, 0]]) (r := [codeOf Try.f54 [1], codeOf Try.f54 [1, 1], codeOf Try.f54 [1, 1, 1], codeOf Try.f54 [1, 1, 1, 1], codeOf Try.f54 [1, 1, 1, 0, 1], codeOf Try.f54 [1, 1, 1, 0, 1, 0, 1], codeOf Try.f54 [1, 1, 1, 0, 1, 0, 1, 0, 1], codeOf Try.f54 [1, 1, 1, 0, 1, 0, 1, 1, 1], codeOf Try.f54 [1, 1, 1, 0, 1, 0, 1, 1, 1, 1, 1], codeOf Try.f54 [1, 1, 1, 1, 1], codeOf Try.f54 [1, 1, 1, 1, 0, 1], codeOf Try.f54 [1, 1, 1, 1, 0, 1, 0, 0, 1], codeOf Try.f54 [1, 1, 1, 1, 0, 1, 0, 0, 1, 1], codeOf Try.f54 [1, 1, 1, 1, 0, 1, 0, 0, 1, 1, 1], codeOf Try.f54 [1, 1, 1, 1, 0, 1, 0, 0, 1, 1, 0, 0, 1], codeOf Try.f54 [1, 1, 1, 1, 1, 1]]) (g := []) (by kernel_rfl) (by kernel_rfl) (by kernel_rfl) ⟨Q54_12_ok, trivial⟩ ⟨(RestOk.none (by kernel_rfl)), ⟨(RestOk.none (by kernel_rfl)), ⟨(RestOk.none (by kernel_rfl)), ⟨Q54_11_ok, ⟨(RestOk.none (by kernel_rfl)), ⟨(RestOk.none (by kernel_rfl)), ⟨(RestOk.none (by kernel_rfl)), ⟨(RestOk.none (by kernel_rfl)), ⟨(RestOk.none (by kernel_rfl)), ⟨(RestOk.none (by kernel_rfl)), ⟨(RestOk.none (by kernel_rfl)), ⟨(RestOk.none (by kernel_rfl)), ⟨(RestOk.none (by kernel_rfl)), ⟨(RestOk.none (by kernel_rfl)), ⟨(RestOk.none (by kernel_rfl)), ⟨(RestOk.none (by kernel_rfl)), trivial⟩⟩⟩⟩⟩⟩⟩⟩⟩⟩⟩⟩⟩⟩⟩⟩ trivial) (evF_to (C := C54) (fun bs t K h0 => by
    unfold P54 at h0
    obtain ⟨b0, r2, rfl, h2⟩ := lI h0
    obtain ⟨n1, r4, rfl, h4⟩ := iI h2
    obtain ⟨rfl, h5⟩ := nilK_inv h4
    obtain ⟨rfl, h6⟩ := bNilK_inv h5
    have h := h6
    refine ⟨_, _, rfl, rfl, ?_⟩
    rw [B54_eq b0 n1 K]
    exact ⟨rfl, h⟩))) _
end Pv

namespace Pv
open Go Go.Proofs

theorem S33_3_eq (pairs0 : List PV) (b3n : Nat) (t12 : List PV) (t13 : Int) (t14 : Int) (x0 : List PV) (G : Ex → St → Prop) : evC C33 (codeOf Try.f33 [1, 1, 0, 1, 0, 0]) (mkSt ((.dmap 9 77 pairs0) :: skU 2 ((.sl 0 5 0 b3n) :: skU 8 ((.list 9 t12) :: (.int .i64 t13) :: (.int .i64 t14) :: skU 15 []))) [(.row true 5 x0)]) G = S33_3 pairs0 t12 t13 b3n t14 x0 (fun b3n t14 x0 => G .normal (mkSt ((.dmap 9 77 pairs0) :: skU 2 ((.sl 0 5 0 b3n) :: skU 8 ((.list 9 t12) :: (.int .i64 t13) :: (.int .i64 t14) :: skU 15 []))) [(.row true 5 x0)])) (fun z1 z4 z5 => G (.exit 0) (mkSt ((.dmap 9 77 pairs0) :: skU 2 ((.sl 0 5 0 z1) :: skU 8 ((.list 9 t12) :: (.int .i64 t13) :: (.int .i64 z4) :: skU 15 []))) [(.row true 5 z5)])) := by kernel_rfl
theorem R33_3_eq (pairs0 : List PV) (t12 : List PV) (t13 : Int) (G : Ex → St → Prop) : ∀ (n : Nat) (b3n : Nat) (t14 : Int) (x0 : List PV), evLoop C33 (codeOf Try.f33 [1, 1, 0, 1, 0, 0]) n (mkSt ((.dmap 9 77 pairs0) :: skU 2 ((.sl 0 5 0 b3n) :: skU 8 ((.list 9 t12) :: (.int .i64 t13) :: (.int .i64 t14) :: skU 15 []))) [(.row true 5 x0)]) G = R33_3 pairs0 t12 t13 (fun z1 z4 z5 => G (.exit 0) (mkSt ((.dmap 9 77 pairs0) :: skU 2 ((.sl 0 5 0 z1) :: skU 8 ((.list 9 t12) :: (.int .i64 t13) :: (.int .i64 z4) :: skU 15 []))) [(.row true 5 z5)])) n b3n t14 x0
  | 0, _, _, _ => rfl
  | n + 1, b3n, t14, x0 => (S33_3_eq pairs0 b3n t12 t13 t14 x0 (fun e s => match e with | .normal => evLoop C33 (codeOf Try.f33 [1, 1, 0, 1, 0, 0]) n s G | .exit id => G (.exit id) s | .ret => G .ret s)).trans (congrArg (fun q => S33_3 pairs0 t12 t13 b3n t14 x0 q (fun z1 z4 z5 => G (.exit 0) (mkSt ((.dmap 9 77 pairs0) :: skU 2 ((.sl 0 5 0 z1) :: skU 8 ((.list 9 t12) :: (.int .i64 t13) :: (.int .i64 z4) :: skU 15 []))) [(.row true 5 z5)]))) (funext fun b3n => funext fun t14 => funext fun x0 => R33_3_eq pairs0 t12 t13 G n b3n t14 x0))
theorem R33_3_eqK (pairs0 : List PV) (t12 : List PV) (t13 : Int) (K : Ex → List PV → List Blk → Prop) (n : Nat) (b3n : Nat) (t14 : Int) (x0 : List PV) : R33_3 pairs0 t12 t13 (fun z1 z4 z5 => K (.exit 0) ((.dmap 9 77 pairs0) :: skU 2 ((.sl 0 5 0 z1) :: skU 8 ((.list 9 t12) :: (.int .i64 t13) :: (.int .i64 z4) :: skU 15 []))) [(.row true 5 z5)]) n b3n t14 x0 = evLoop C33 (codeOf Try.f33 [1, 1, 0, 1, 0, 0]) n (mkSt ((.dmap 9 77 pairs0) :: skU 2 ((.sl 0 5 0 b3n) :: skU 8 ((.list 9 t12) :: (.int .i64 t13) :: (.int .i64 t14) :: skU 15 []))) [(.row true 5 x0)]) (onSt K) := ((R33_3_eq pairs0 t12 t13 (onSt K) n b3n t14 x0).trans (by kernel_rfl)).symm
theorem Q33_3_ok : LoopOk C33 (codeOf Try.f33 [1, 1, 0, 1, 0, 0]) := LoopOk.of (l := Q33_3) (by kernel_rfl) (fun t bs K h0 => by
    unfold Q33_3 at h0
    obtain ⟨r1, r2, rfl, h1⟩ := consK_inv h0
    obtain ⟨pairs0, rfl, h2⟩ := dmapK_inv h1
    obtain ⟨r3, rfl, h3⟩ := skipU_inv h2
    obtain ⟨b3n, r5, rfl, h5⟩ := zI h3
    obtain ⟨r6, rfl, h6⟩ := skipU_inv h5
    obtain ⟨t12, r8, rfl, h8⟩ := lI h6
    obtain ⟨t13, r10, rfl, h10⟩ := iI h8
    obtain ⟨t14, r12, rfl, h12⟩ := iI h10
    obtain ⟨r13, rfl, h13⟩ := skipU_inv h12
    obtain ⟨rfl, h14⟩ := nilK_inv h13
    obtain ⟨x0, r15, rfl, h16⟩ := bR h14
    obtain ⟨rfl, h17⟩ := bNilK_inv h16
    have h := h17
    obtain ⟨n, hn⟩ := h
    refine ⟨n, ?_⟩
    rw [← R33_3_eqK pairs0 t12 t13 K n b3n t14 x0]
    exact hn)
theorem B33_eq (pairs0 : List PV) (K : List Blk → List PV → Prop) : evF C33 Try.f33 [] [(.dmap 9 77 pairs0)] K = (([] : List Blk).length = 0 ∧ B33 pairs0 (fun z0 => K [] [(.list 5 z0)])) := by kernel_rfl
theorem W33_of (hT : AllSound Try.prog pvT pvG T33) : Sound Try.prog pvT pvG 33 W33 := Sound.weak (evF_sound (C := C33) (Base.of pvT_fits pvT_sized pvT_eq hT pvMixed pvIt_ok) Try.func33 (LoopsOk.of (C := C33) (fn := Try.f33) (l := [codeOf Try.f33 [1, 1, 0, 1, 0, 0]]) (g := []) (by kernel_rfl) rfl (by kernel_rfl) ⟨Q33_3_ok, trivial⟩ (RestOk.all rfl _) trivial) (evF_to (C := C33) (fun bs t K h0 => by
    unfold P33 at h0
    obtain ⟨r1, r2, rfl, h1⟩ := consK_inv h0
    obtain ⟨pairs0, rfl, h2⟩ := dmapK_inv h1
    obtain ⟨rfl, h3⟩ := nilK_inv h2
    obtain ⟨rfl, h4⟩ := bNilK_inv h3
    have h := h4
    refine ⟨_, _, rfl, rfl, ?_⟩
    rw [B33_eq pairs0 K]
    exact ⟨rfl, h⟩))) _
end Pv

namespace Pv
open Go Go.Proofs

theorem J50_5_eq (most1 : Int) (n6 : Int) (w7 : Int) (aa : List PV) (ab : Bool) (ac : Bool) (K : Ex → List PV → List Blk → Prop) : J50_5 most1 n6 w7 aa ab ac (fun z0 z1 z2 z3 z4 => K .ret (skU 4 ((.int .u64 z0) :: (.int .i64 z1) :: skU 26 [])) [(.box true 132 (.agg [(.list 5 z2), (.bool z3), (.bool z4)]))]) = evC C50 (codeOf Try.f50 [1, 1, 1, 1]) (mkSt ((.ptr 0 132 0 []) :: (.int .u64 most1) :: skU 4 ((.int .u64 n6) :: (.int .i64 w7) :: skU 24 [])) [(.box true 132 (.agg [(.list 5 aa), (.bool ab), (.bool ac)]))]) (onSt K) := by kernel_rfl
theorem Q50_5_ok : RestOk C50 (codeOf Try.f50 [1, 1, 1, 1]) := RestOk.to (l := Q50_5) (by kernel_rfl) (by
    intro t bs K h0
    unfold Q50_5 at h0
    obtain ⟨r2, rfl, h2⟩ := pI h0
    obtain ⟨most1, r4, rfl, h4⟩ := iI h2
    obtain ⟨r5, rfl, h5⟩ := skipU_inv h4
    obtain ⟨n6, r7, rfl, h7⟩ := iI h5
    obtain ⟨w7, r9, rfl, h9⟩ := iI h7
    obtain ⟨r10, rfl, h10⟩ := skipU_inv h9
    obtain ⟨rfl, h11⟩ := nilK_inv h10
    obtain ⟨r14, r12, rfl, h14⟩ := bA h11
    obtain ⟨aa, r16, rfl, h16⟩ := lI h14
    obtain ⟨ab, r18, rfl, h18⟩ := bI h16
    obtain ⟨ac, r20, rfl, h20⟩ := bI h18
    obtain ⟨rfl, h21⟩ := nilK_inv h20
    obtain ⟨rfl, h22⟩ := bNilK_inv h21
    have h := h22
    refine ⟨_, _, rfl, rfl, ?_⟩
    rw [← J50_5_eq most1 n6 w7 aa ab ac K]
    exact h)
theorem B50_eq (most : Int) (rb : List PV) (made : Bool) (torn : Bool) (K : List Blk → List PV → Prop) : evF C50 Try.f50 [(.box true 132 (.agg [(.list 5 rb), (.bool made), (.bool torn)]))] [(.ptr 0 132 0 []), (.int .u64 most)] K = (([(.box true 132 (.agg [(.list 5 rb), (.bool made), (.bool torn)]))] : List Blk).length = 1 ∧ B50 most rb made torn (fun z0 z1 z2 z3 z4 => K [(.box true 132 (.agg [(.list 5 z2), (.bool z3), (.bool z4)]))] [(.int .u64 z0), (.int .i64 z1)])) := by kernel_rfl
theorem W50_of (hT : AllSound Try.prog pvT pvG T50) : Sound Try.prog pvT pvG 50 W50 := Sound.weak (evF_sound (C := C50) (Base.of pvT_fits pvT_sized pvT_eq hT pvMixed pvIt_ok) Try.func50 (LoopsOk.of (C := C50) (fn := Try.f50) (l := []) (r := [codeOf Try.f50 [1], codeOf Try.f50 [1, 1], codeOf Try.f50 [1, 1, 1], codeOf Try.f50 [1, 1, 1, 1], codeOf Try.f50 [1, 1, 1, 0, 1], codeOf Try.f50 [1, 1, 1, 1, 1], codeOf Try.f50 [1, 1, 1, 1, 0, 0, 1], codeOf Try.f50 [1, 1, 1, 1, 0, 0, 1, 0, 1], codeOf Try.f50 [1, 1, 1, 1, 0, 0, 1, 1, 1], codeOf Try.f50 [1, 1, 1, 1, 0, 0, 1, 1, 1, 0, 1], codeOf Try.f50 [1, 1, 1, 1, 1, 1]]) (g := []) (by kernel_rfl) (by kernel_rfl) (by kernel_rfl) trivial ⟨(RestOk.none (by kernel_rfl)), ⟨(RestOk.none (by kernel_rfl)), ⟨(RestOk.none (by kernel_rfl)), ⟨Q50_5_ok, ⟨(RestOk.none (by kernel_rfl)), ⟨(RestOk.none (by kernel_rfl)), ⟨(RestOk.none (by kernel_rfl)), ⟨(RestOk.none (by kernel_rfl)), ⟨(RestOk.none (by kernel_rfl)), ⟨(RestOk.none (by kernel_rfl)), ⟨(RestOk.none (by kernel_rfl)), trivial⟩⟩⟩⟩⟩⟩⟩⟩⟩⟩⟩ trivial) (evF_to (C := C50) (fun bs t K h0 => by
    unfold P50 at h0
    obtain ⟨r2, rfl, h2⟩ := pI h0
    obtain ⟨most, r4, rfl, h4⟩ := iI h2
    obtain ⟨rfl, h5⟩ := nilK_inv h4
    obtain ⟨r8, r6, rfl, h8⟩ := bA h5
    obtain ⟨rb, r10, rfl, h10⟩ := lI h8
    obtain ⟨made, r12, rfl, h12⟩ := bI h10
    obtain ⟨torn, r14, rfl, h14⟩ := bI h12
    obtain ⟨rfl, h15⟩ := nilK_inv h14
    obtain ⟨rfl, h16⟩ := bNilK_inv h15
    have h := h16
    refine ⟨_, _, rfl, rfl, ?_⟩
    rw [B50_eq most rb made torn K]
    exact ⟨rfl, h⟩))) _
end Pv

namespace Pv
open Go Go.Proofs

theorem J71_7_eq (size3 : Int) (K : Ex → List PV → List Blk → Prop) : J71_7 size3 (fun z0 => K (.exit 0) (skU 3 ((.int .i64 z0) :: skU 16 [])) []) = evC C71 (codeOf Try.f71 [1, 1, 0, 0, 1]) (mkSt (skU 3 ((.int .i64 size3) :: skU 16 [])) []) (onSt K) := by kernel_rfl
theorem Q71_7_ok : RestOk C71 (codeOf Try.f71 [1, 1, 0, 0, 1]) := RestOk.to (l := Q71_7) (by kernel_rfl) (by
    intro t bs K h0
    unfold Q71_7 at h0
    obtain ⟨r1, rfl, h1⟩ := skipU_inv h0
    obtain ⟨size3, r3, rfl, h3⟩ := iI h1
    obtain ⟨r4, rfl, h4⟩ := skipU_inv h3
    obtain ⟨rfl, h5⟩ := nilK_inv h4
    obtain ⟨rfl, h6⟩ := bNilK_inv h5
    have h := h6
    refine ⟨_, _, rfl, rfl, ?_⟩
    rw [← J71_7_eq size3 K]
    exact h)
theorem J71_8_eq (size3 : Int) (K : Ex → List PV → List Blk → Prop) : J71_8 size3 (K .ret (skU 2 ((.int .i64 size3) :: skU 17 [])) []) = evC C71 (codeOf Try.f71 [1, 1, 1]) (mkSt (skU 3 ((.int .i64 size3) :: skU 16 [])) []) (onSt K) := by kernel_rfl
theorem Q71_8_ok : RestOk C71 (codeOf Try.f71 [1, 1, 1]) := RestOk.to (l := Q71_8) (by kernel_rfl) (by
    intro t bs K h0
    unfold Q71_8 at h0
    obtain ⟨r1, rfl, h1⟩ := skipU_inv h0
    obtain ⟨size3, r3, rfl, h3⟩ := iI h1
    obtain ⟨r4, rfl, h4⟩ := skipU_inv h3
    obtain ⟨rfl, h5⟩ := nilK_inv h4
    obtain ⟨rfl, h6⟩ := bNilK_inv h5
    have h := h6
    refine ⟨_, _, rfl, rfl, ?_⟩
    rw [← J71_8_eq size3 K]
    exact h)
theorem B71_eq (n0 : Int) (K : List Blk → List PV → Prop) : evF C71 Try.f71 [] [(.int .u64 n0)] K = (([] : List Blk).length = 0 ∧ B71 n0 (fun z0 => K [] [(.int .i64 z0)])) := by kernel_rfl
theorem W71_of (hT : AllSound Try.prog pvT pvG T71) : Sound Try.prog pvT pvG 71 W71 := Sound.weak (evF_sound (C := C71) (Base.of pvT_fits pvT_sized pvT_eq hT pvMixed pvIt_ok) Try.func71 (LoopsOk.of (C := C71) (fn := Try.f71) (l := []) (r := [codeOf Try.f71 [1], codeOf Try.f71 [1, 1], codeOf Try.f71 [1, 1, 1], codeOf Try.f71 [1, 1, 0, 0, 1], codeOf Try.f71 [1, 1, 0, 0, 0, 0, 1], codeOf Try.f71 [1, 1, 0, 0, 0, 0, 0, 0, 1], codeOf Try.f71 [1, 1, 0, 0, 0, 0, 0, 0, 0, 0, 1], codeOf Try.f71 [1, 1, 0, 0, 0, 0, 0, 0, 0, 0, 0, 1], codeOf Try.f71 [1, 1, 0, 0, 0, 0, 0, 0, 0, 0, 0, 0, 1], codeOf Try.f71 [1, 1, 0, 0, 0, 0, 0, 0, 0, 0, 0, 1, 1], codeOf Try.f71 [1, 1, 0, 0, 0, 0, 0, 0, 0, 0, 0, 1, 0, 1], codeOf Try.f71 [1, 1, 0, 0, 0, 0, 0, 0, 0, 0, 0, 1, 1, 1], codeOf Try.f71 [1, 1, 0, 0, 1, 1], codeOf Try.f71 [1, 1, 1, 1]]) (g := []) (by kernel_rfl) (by kernel_rfl) (by kernel_rfl) trivial ⟨(RestOk.none (by kernel_rfl)), ⟨(RestOk.none (by kernel_rfl)), ⟨Q71_8_ok, ⟨Q71_7_ok, ⟨(RestOk.none (by kernel_rfl)), ⟨(RestOk.none (by kernel_rfl)), ⟨(RestOk.none (by kernel_rfl)), ⟨(RestOk.none (by kernel_rfl)), ⟨(RestOk.none (by kernel_rfl)), ⟨(RestOk.none (by kernel_rfl)), ⟨(RestOk.none (by kernel_rfl)), ⟨(RestOk.none (by kernel_rfl)), ⟨(RestOk.none (by kernel_rfl)), ⟨(RestOk.none (by kernel_rfl)), trivial⟩⟩⟩⟩⟩⟩⟩⟩⟩⟩⟩⟩⟩⟩ trivial) (evF_to (C := C71) (fun bs t K h0 => by
    unfold P71 at h0
    obtain ⟨n0, r2, rfl, h2⟩ := iI h0
    obtain ⟨rfl, h3⟩ := nilK_inv h2
    obtain ⟨rfl, h4⟩ := bNilK_inv h3
    have h := h4
    refine ⟨_, _, rfl, rfl, ?_⟩
    rw [B71_eq n0 K]
    exact ⟨rfl, h⟩))) _
end Pv

namespace Pv
open Go Go.Proofs

theorem B29_eq (snumber : Int) (sfirst : Int) (slong : Int) (ssum : Int) (place : Int) (top : Int) (soff : Bool) (dn : Nat) (off : Bool) (cut : Bool) (whole : Int) (kept : Int) (writes : Int) (pairs : List PV) (secs : List PV) (K : List Blk → List PV → Prop) : evF C29 Try.f29 [(.box true 57 (.agg [(.ptr 1 64 0 []), (.mapr 2), (.agg [(.int .u64 snumber), (.int .i64 sfirst), (.int .i64 slong), (.int .u32 ssum)]), (.int .i64 place), (.int .u64 top), (.bool soff)])), (.box true 64 (.agg [(.sl 3 111 0 dn), (.bool off), (.bool cut), (.int .i64 whole), (.int .i64 kept), (.int .i64 writes)])), (.map false 9 77 pairs), (.row true 111 secs)] [(.ptr 0 57 0 [])] K = (([(.box true 57 (.agg [(.ptr 1 64 0 []), (.mapr 2), (.agg [(.int .u64 snumber), (.int .i64 sfirst), (.int .i64 slong), (.int .u32 ssum)]), (.int .i64 place), (.int .u64 top), (.bool soff)])), (.box true 64 (.agg [(.sl 3 111 0 dn), (.bool off), (.bool cut), (.int .i64 whole), (.int .i64 kept), (.int .i64 writes)])), (.map false 9 77 pairs), (.row true 111 secs)] : List Blk).length = 4 ∧ B29 snumber sfirst slong ssum place top soff dn off cut whole kept writes pairs secs (fun z0 z1 z2 z3 z4 z5 z6 z7 z8 z9 z10 z11 z12 z13 z14 => K [(.box true 57 (.agg [(.ptr 1 64 0 []), (.mapr 2), (.agg [(.int .u64 z0), (.int .i64 z1), (.int .i64 z2), (.int .u32 z3)]), (.int .i64 z4), (.int .u64 z5), (.bool z6)])), (.box true 64 (.agg [(.sl 3 111 0 z7), (.bool z8), (.bool z9), (.int .i64 z10), (.int .i64 z11), (.int .i64 z12)])), (.map false 9 77 z13), (.row true 111 z14)] [(.bool true)])) := by kernel_rfl
theorem W29_of (hT : AllSound Try.prog pvT pvG T29) : Sound Try.prog pvT pvG 29 W29 := Sound.weak (evF_sound (C := C29) (Base.of pvT_fits pvT_sized pvT_eq hT pvMixed pvIt_ok) Try.func29 (LoopsOk.of (C := C29) (fn := Try.f29) (l := []) (g := []) (by kernel_rfl) rfl (by kernel_rfl) trivial (RestOk.all rfl _) trivial) (evF_to (C := C29) (fun bs t K h0 => by
    unfold P29 at h0
    obtain ⟨r2, rfl, h2⟩ := pI h0
    obtain ⟨rfl, h3⟩ := nilK_inv h2
    obtain ⟨r6, r4, rfl, h6⟩ := bA h3
    obtain ⟨r8, rfl, h8⟩ := pI h6
    obtain ⟨r10, rfl, h10⟩ := mI h8
    obtain ⟨r13, r12, rfl, h12⟩ := aI h10
    obtain ⟨snumber, r15, rfl, h14⟩ := iI h12
    obtain ⟨sfirst, r17, rfl, h16⟩ := iI h14
    obtain ⟨slong, r19, rfl, h18⟩ := iI h16
    obtain ⟨ssum, r21, rfl, h20⟩ := iI h18
    obtain ⟨rfl, h21⟩ := nilK_inv h20
    obtain ⟨place, r23, rfl, h23⟩ := iI h21
    obtain ⟨top, r25, rfl, h25⟩ := iI h23
    obtain ⟨soff, r27, rfl, h27⟩ := bI h25
    obtain ⟨rfl, h28⟩ := nilK_inv h27
    obtain ⟨r31, r29, rfl, h31⟩ := bA h28
    obtain ⟨dn, r33, rfl, h33⟩ := zI h31
    obtain ⟨off, r35, rfl, h35⟩ := bI h33
    obtain ⟨cut, r37, rfl, h37⟩ := bI h35
    obtain ⟨whole, r39, rfl, h39⟩ := iI h37
    obtain ⟨kept, r41, rfl, h41⟩ := iI h39
    obtain ⟨writes, r43, rfl, h43⟩ := iI h41
    obtain ⟨rfl, h44⟩ := nilK_inv h43
    obtain ⟨pairs, r45, rfl, h46⟩ := bM h44
    obtain ⟨secs, r47, rfl, h48⟩ := bR h46
    obtain ⟨rfl, h49⟩ := bNilK_inv h48
    have h := h49
    refine ⟨_, _, rfl, rfl, ?_⟩
    rw [B29_eq snumber sfirst slong ssum place top soff dn off cut whole kept writes pairs secs K]
    exact ⟨rfl, h⟩))) _
end Pv

namespace Pv
open Go Go.Proofs

theorem B23_eq (dn : Nat) (off : Bool) (cut : Bool) (whole : Int) (kept : Int) (writes : Int) (secs : List PV) (K : List Blk → List PV → Prop) : evF C23 Try.f23 [(.box true 64 (.agg [(.sl 1 111 0 dn), (.bool off), (.bool cut), (.int .i64 whole), (.int .i64 kept), (.int .i64 writes)])), (.row true 111 secs)] [(.ptr 0 64 0 [])] K = (([(.box true 64 (.agg [(.sl 1 111 0 dn), (.bool off), (.bool cut), (.int .i64 whole), (.int .i64 kept), (.int .i64 writes)])), (.row true 111 secs)] : List Blk).length = 2 ∧ B23 dn off cut whole kept writes secs (fun z0 z1 z2 z3 z4 z5 z6 z7 => K [(.box true 64 (.agg [(.sl 1 111 0 z1), (.bool z2), (.bool z3), (.int .i64 z4), (.int .i64 z5), (.int .i64 z6)])), (.row true 111 z7)] [(.int .i64 z0)])) := by kernel_rfl
theorem W23_of (hT : AllSound Try.prog pvT pvG T23) : Sound Try.prog pvT pvG 23 W23 := Sound.weak (evF_sound (C := C23) (Base.of pvT_fits pvT_sized pvT_eq hT pvMixed pvIt_ok) Try.func23 (LoopsOk.of (C := C23) (fn := Try.f23) (l := []) (g := []) (by kernel_rfl) rfl (by kernel_rfl) trivial (RestOk.all rfl _) trivial) (evF_to (C := C23) (fun bs t K h0 => by
    unfold P23 at h0
    obtain ⟨r2, rfl, h2⟩ := pI h0
    obtain ⟨rfl, h3⟩ := nilK_inv h2
    obtain ⟨r6, r4, rfl, h6⟩ := bA h3
    obtain ⟨dn, r8, rfl, h8⟩ := zI h6
    obtain ⟨off, r10, rfl, h10⟩ := bI h8
    obtain ⟨cut, r12, rfl, h12⟩ := bI h10
    obtain ⟨whole, r14, rfl, h14⟩ := iI h12
    obtain ⟨kept, r16, rfl, h16⟩ := iI h14
    obtain ⟨writes, r18, rfl, h18⟩ := iI h16
    obtain ⟨rfl, h19⟩ := nilK_inv h18
    obtain ⟨secs, r20, rfl, h21⟩ := bR h19
    obtain ⟨rfl, h22⟩ := bNilK_inv h21
    have h := h22
    refine ⟨_, _, rfl, rfl, ?_⟩
    rw [B23_eq dn off cut whole kept writes secs K]
    exact ⟨rfl, h⟩))) _
end Pv

namespace Pv
open Go Go.Proofs

theorem B12_eq (dn : Nat) (off : Bool) (cut : Bool) (whole : Int) (kept : Int) (writes : Int) (secs : List PV) (K : List Blk → List PV → Prop) : evF C12 Try.f12 [(.box true 64 (.agg [(.sl 1 111 0 dn), (.bool off), (.bool cut), (.int .i64 whole), (.int .i64 kept), (.int .i64 writes)])), (.row true 111 secs)] [(.ptr 0 64 0 [])] K = (([(.box true 64 (.agg [(.sl 1 111 0 dn), (.bool off), (.bool cut), (.int .i64 whole), (.int .i64 kept), (.int .i64 writes)])), (.row true 111 secs)] : List Blk).length = 2 ∧ B12 dn off cut whole kept writes secs (fun z0 z1 z2 z3 z4 z5 z6 z7 => K [(.box true 64 (.agg [(.sl 1 111 0 z1), (.bool z2), (.bool z3), (.int .i64 z4), (.int .i64 z5), (.int .i64 z6)])), (.row true 111 z7)] [(.bool z0)])) := by kernel_rfl
theorem W12_of (hT : AllSound Try.prog pvT pvG T12) : Sound Try.prog pvT pvG 12 W12 := Sound.weak (evF_sound (C := C12) (Base.of pvT_fits pvT_sized pvT_eq hT pvMixed pvIt_ok) Try.func12 (LoopsOk.of (C := C12) (fn := Try.f12) (l := []) (g := []) (by kernel_rfl) rfl (by kernel_rfl) trivial (RestOk.all rfl _) trivial) (evF_to (C := C12) (fun bs t K h0 => by
    unfold P12 at h0
    obtain ⟨r2, rfl, h2⟩ := pI h0
    obtain ⟨rfl, h3⟩ := nilK_inv h2
    obtain ⟨r6, r4, rfl, h6⟩ := bA h3
    obtain ⟨dn, r8, rfl, h8⟩ := zI h6
    obtain ⟨off, r10, rfl, h10⟩ := bI h8
    obtain ⟨cut, r12, rfl, h12⟩ := bI h10
    obtain ⟨whole, r14, rfl, h14⟩ := iI h12
    obtain ⟨kept, r16, rfl, h16⟩ := iI h14
    obtain ⟨writes, r18, rfl, h18⟩ := iI h16
    obtain ⟨rfl, h19⟩ := nilK_inv h18
    obtain ⟨secs, r20, rfl, h21⟩ := bR h19
    obtain ⟨rfl, h22⟩ := bNilK_inv h21
    have h := h22
    refine ⟨_, _, rfl, rfl, ?_⟩
    rw [B12_eq dn off cut whole kept writes secs K]
    exact ⟨rfl, h⟩))) _
end Pv

namespace Pv
open Go Go.Proofs

theorem B67_eq (n : Int) (rb : List PV) (made : Bool) (torn : Bool) (K : List Blk → List PV → Prop) : evF C67 Try.f67 [(.box true 132 (.agg [(.list 5 rb), (.bool made), (.bool torn)]))] [(.ptr 0 132 0 []), (.int .i64 n)] K = (([(.box true 132 (.agg [(.list 5 rb), (.bool made), (.bool torn)]))] : List Blk).length = 1 ∧ B67 n rb made torn (fun z0 z1 z2 z3 => K [(.box true 132 (.agg [(.list 5 z1), (.bool z2), (.bool z3)]))] [(.bool z0)])) := by kernel_rfl
theorem W67_of (hT : AllSound Try.prog pvT pvG T67) : Sound Try.prog pvT pvG 67 W67 := Sound.weak (evF_sound (C := C67) (Base.of pvT_fits pvT_sized pvT_eq hT pvMixed pvIt_ok) Try.func67 (LoopsOk.of (C := C67) (fn := Try.f67) (l := []) (g := []) (by kernel_rfl) rfl (by kernel_rfl) trivial (RestOk.all rfl _) trivial) (evF_to (C := C67) (fun bs t K h0 => by
    unfold P67 at h0
    obtain ⟨r2, rfl, h2⟩ := pI h0
    obtain ⟨n, r4, rfl, h4⟩ := iI h2
    obtain ⟨rfl, h5⟩ := nilK_inv h4
    obtain ⟨r8, r6, rfl, h8⟩ := bA h5
    obtain ⟨rb, r10, rfl, h10⟩ := lI h8
    obtain ⟨made, r12, rfl, h12⟩ := bI h10
    obtain ⟨torn, r14, rfl, h14⟩ := bI h12
    obtain ⟨rfl, h15⟩ := nilK_inv h14
    obtain ⟨rfl, h16⟩ := bNilK_inv h15
    have h := h16
    refine ⟨_, _, rfl, rfl, ?_⟩
    rw [B67_eq n rb made torn K]
    exact ⟨rfl, h⟩))) _
end Pv

namespace Pv
open Go Go.Proofs

theorem B14_eq (K : List Blk → List PV → Prop) : evF C14 Try.f14 [] [] K = (([] : List Blk).length = 0 ∧ B14  (K [] [.nilp, .nilp]) (fun z0 z1 z2 z3 z4 z5 z6 z7 z8 z9 z10 z11 z12 z13 => K [(.box true 64 (.agg [(.sl 2 111 0 z0), (.bool z1), (.bool z2), (.int .i64 z3), (.int .i64 z4), (.int .i64 z5)])), (.box true 57 (.agg [(.ptr 0 64 0 []), (.mapr 3), (.agg [(.int .u64 z6), (.int .i64 z7), (.int .i64 z8), (.int .u32 z9)]), (.int .i64 z10), (.int .u64 z11), (.bool false)])), (.row true 111 z12), (.map false 9 77 z13)] [(.ptr 0 64 0 []), (.ptr 1 57 0 [])])) := by kernel_rfl
theorem W14_of (hT : AllSound Try.prog pvT pvG T14) : Sound Try.prog pvT pvG 14 W14 := Sound.weak (evF_sound (C := C14) (Base.of pvT_fits pvT_sized pvT_eq hT pvMixed pvIt_ok) Try.func14 (LoopsOk.of (C := C14) (fn := Try.f14) (l := []) (g := []) (by kernel_rfl) rfl (by kernel_rfl) trivial (RestOk.all rfl _) trivial) (evF_to (C := C14) (fun bs t K h0 => by
    unfold P14 at h0
    obtain ⟨rfl, h1⟩ := nilK_inv h0
    obtain ⟨rfl, h2⟩ := bNilK_inv h1
    have h := h2
    refine ⟨_, _, rfl, rfl, ?_⟩
    rw [B14_eq  K]
    exact ⟨rfl, h⟩))) _
end Pv

namespace Pv
open Go Go.Proofs

theorem B65_eq (s0 : List PV) (n1 : Int) (K : List Blk → List PV → Prop) : evF C65 Try.f65 [] [(.list 5 s0), (.int .i64 n1)] K = (([] : List Blk).length = 0 ∧ B65 s0 n1 (fun z0 z1 => K [(.box true 61 (.list 5 z0)), (.box true 3 (.int .i64 z1))] [(.fn 77 [(.ptr 0 61 0 []), (.ptr 1 3 0 [])])])) := by kernel_rfl
theorem W65_of (hT : AllSound Try.prog pvT pvG T65) : Sound Try.prog pvT pvG 65 W65 := Sound.weak (evF_sound (C := C65) (Base.of pvT_fits pvT_sized pvT_eq hT pvMixed pvIt_ok) Try.func65 (LoopsOk.of (C := C65) (fn := Try.f65) (l := []) (g := []) (by kernel_rfl) rfl (by kernel_rfl) trivial (RestOk.all rfl _) trivial) (evF_to (C := C65) (fun bs t K h0 => by
    unfold P65 at h0
    obtain ⟨s0, r2, rfl, h2⟩ := lI h0
    obtain ⟨n1, r4, rfl, h4⟩ := iI h2
    obtain ⟨rfl, h5⟩ := nilK_inv h4
    obtain ⟨rfl, h6⟩ := bNilK_inv h5
    have h := h6
    refine ⟨_, _, rfl, rfl, ?_⟩
    rw [B65_eq s0 n1 K]
    exact ⟨rfl, h⟩))) _
end Pv

namespace Pv
open Go Go.Proofs

theorem B60_eq (s0 : ByteArray) (prefix1 : ByteArray) (K : List Blk → List PV → Prop) : evF C60 Try.f60 [] [(.str s0), (.str prefix1)] K = (([] : List Blk).length = 0 ∧ B60 s0 prefix1 (fun z0 => K [] [(.bool z0)])) := by kernel_rfl
theorem W60_of (hT : AllSound Try.prog pvT pvG T60) : Sound Try.prog pvT pvG 60 W60 := Sound.weak (evF_sound (C := C60) (Base.of pvT_fits pvT_sized pvT_eq hT pvMixed pvIt_ok) Try.func60 (LoopsOk.of (C := C60) (fn := Try.f60) (l := []) (g := []) (by kernel_rfl) rfl (by kernel_rfl) trivial (RestOk.all rfl _) trivial) (evF_to (C := C60) (fun bs t K h0 => by
    unfold P60 at h0
    obtain ⟨s0, r2, rfl, h2⟩ := sI h0
    obtain ⟨prefix1, r4, rfl, h4⟩ := sI h2
    obtain ⟨rfl, h5⟩ := nilK_inv h4
    obtain ⟨rfl, h6⟩ := bNilK_inv h5
    have h := h6
    refine ⟨_, _, rfl, rfl, ?_⟩
    rw [B60_eq s0 prefix1 K]
    exact ⟨rfl, h⟩))) _
end Pv

namespace Pv
open Go Go.Proofs

theorem B66_eq (s0 : List PV) (K : List Blk → List PV → Prop) : evF C66 Try.f66 [] [(.list 5 s0)] K = (([] : List Blk).length = 0 ∧ B66 s0 (fun z0 z1 => K [(.row true 5 z1)] [(.sl 0 5 0 z0)])) := by kernel_rfl
theorem W66_of (hT : AllSound Try.prog pvT pvG T66) : Sound Try.prog pvT pvG 66 W66 := Sound.weak (evF_sound (C := C66) (Base.of pvT_fits pvT_sized pvT_eq hT pvMixed pvIt_ok) Try.func66 (LoopsOk.of (C := C66) (fn := Try.f66) (l := []) (g := []) (by kernel_rfl) rfl (by kernel_rfl) trivial (RestOk.all rfl _) trivial) (evF_to (C := C66) (fun bs t K h0 => by
    unfold P66 at h0
    obtain ⟨s0, r2, rfl, h2⟩ := lI h0
    obtain ⟨rfl, h3⟩ := nilK_inv h2
    obtain ⟨rfl, h4⟩ := bNilK_inv h3
    have h := h4
    refine ⟨_, _, rfl, rfl, ?_⟩
    rw [B66_eq s0 K]
    exact ⟨rfl, h⟩))) _
end Pv

namespace Pv
open Go Go.Proofs

theorem B66d_eq (s0 : List PV) (K : List Blk → List PV → Prop) : evF C66d Try.f66 [] [(.list 5 s0)] K = (([] : List Blk).length = 0 ∧ B66d s0 (fun z0 => K [] [(.list 5 z0)])) := by kernel_rfl
theorem W66d_of (hT : AllSound Try.prog pvT pvG T66d) : Sound Try.prog pvT pvG 66 W66d := Sound.weak (evF_sound (C := C66d) (Base.of pvT_fits pvT_sized pvT_eq hT pvMixed pvIt_ok) Try.func66 (LoopsOk.of (C := C66d) (fn := Try.f66) (l := []) (g := []) (by kernel_rfl) rfl (by kernel_rfl) trivial (RestOk.all rfl _) trivial) (evF_to (C := C66d) (fun bs t K h0 => by
    unfold P66d at h0
    obtain ⟨s0, r2, rfl, h2⟩ := lI h0
    obtain ⟨rfl, h3⟩ := nilK_inv h2
    obtain ⟨rfl, h4⟩ := bNilK_inv h3
    have h := h4
    refine ⟨_, _, rfl, rfl, ?_⟩
    rw [B66d_eq s0 K]
    exact ⟨rfl, h⟩))) _
end Pv

namespace Pv
open Go Go.Proofs

theorem B15_eq (K : List Blk → List PV → Prop) : evF C15 Try.f15 [] [] K = (([] : List Blk).length = 0 ∧ B15  (fun z0 => K [(.row true 36 z0)] [(.sl 0 36 0 2)])) := by kernel_rfl
theorem W15_of (hT : AllSound Try.prog pvT pvG T15) : Sound Try.prog pvT pvG 15 W15 := Sound.weak (evF_sound (C := C15) (Base.of pvT_fits pvT_sized pvT_eq hT pvMixed pvIt_ok) Try.func15 (LoopsOk.of (C := C15) (fn := Try.f15) (l := []) (g := []) (by kernel_rfl) rfl (by kernel_rfl) trivial (RestOk.all rfl _) trivial) (evF_to (C := C15) (fun bs t K h0 => by
    unfold P15 at h0
    obtain ⟨rfl, h1⟩ := nilK_inv h0
    obtain ⟨rfl, h2⟩ := bNilK_inv h1
    have h := h2
    refine ⟨_, _, rfl, rfl, ?_⟩
    rw [B15_eq  K]
    exact ⟨rfl, h⟩))) _
end Pv
