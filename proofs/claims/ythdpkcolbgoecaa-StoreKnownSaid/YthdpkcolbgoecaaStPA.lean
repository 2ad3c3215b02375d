/- A part of the proof. No conditions of its own beyond those that its theorems name. -/
import Derived.Test.YthdpkcolbgoecaaStD

namespace Pv
open Go Go.Proofs

theorem S10_5_eq (t23 : List PV) (t24 : Int) (t25 : Int) (aa : Int) (ab : Int) (ac : Int) (ad : Int) (af : Int) (ag : Int) (ah : Bool) (ae : Nat) (ai : Bool) (aj : Bool) (ak : Int) (al : Int) (am : Int) (x2 : List PV) (x3 : List PV) (x4 : List PV) (G : Ex → St → Prop) : evC C10 (codeOf Try.f10 [1, 1, 1, 0, 1, 0, 0]) (mkSt ((.ptr 0 57 0 []) :: skU 4 ((.mapr 4) :: skU 17 ((.list 36 t23) :: (.int .i64 t24) :: (.int .i64 t25) :: skU 117 []))) [(.box true 57 (.agg [(.ptr 1 64 0 []), (.mapr 2), (.agg [(.int .u64 aa), (.int .i64 ab), (.int .i64 ac), (.int .u32 ad)]), (.int .i64 af), (.int .u64 ag), (.bool ah)])), (.box true 64 (.agg [(.sl 3 111 0 ae), (.bool ai), (.bool aj), (.int .i64 ak), (.int .i64 al), (.int .i64 am)])), (.map false 9 77 x2), (.row true 111 x3), (.map true 9 77 x4)]) G = S10_5 t23 t24 aa ab ac ad af ag ah ae ai aj ak al am x2 x3 t25 x4 (fun t25 x4 => G .normal (mkSt ((.ptr 0 57 0 []) :: skU 4 ((.mapr 4) :: skU 17 ((.list 36 t23) :: (.int .i64 t24) :: (.int .i64 t25) :: skU 117 []))) [(.box true 57 (.agg [(.ptr 1 64 0 []), (.mapr 2), (.agg [(.int .u64 aa), (.int .i64 ab), (.int .i64 ac), (.int .u32 ad)]), (.int .i64 af), (.int .u64 ag), (.bool ah)])), (.box true 64 (.agg [(.sl 3 111 0 ae), (.bool ai), (.bool aj), (.int .i64 ak), (.int .i64 al), (.int .i64 am)])), (.map false 9 77 x2), (.row true 111 x3), (.map true 9 77 x4)])) (G .ret (mkSt (skU 4 ((.int .i64 2) :: skU 138 [])) [(.box true 57 (.agg [(.ptr 1 64 0 []), (.mapr 2), (.agg [(.int .u64 aa), (.int .i64 ab), (.int .i64 ac), (.int .u32 ad)]), (.int .i64 af), (.int .u64 ag), (.bool ah)])), (.box true 64 (.agg [(.sl 3 111 0 ae), (.bool ai), (.bool aj), (.int .i64 ak), (.int .i64 al), (.int .i64 am)])), (.map false 9 77 x2), (.row true 111 x3)])) (fun z2 z18 => G (.exit 0) (mkSt ((.ptr 0 57 0 []) :: skU 4 ((.mapr 4) :: skU 17 ((.list 36 t23) :: (.int .i64 t24) :: (.int .i64 z2) :: skU 117 []))) [(.box true 57 (.agg [(.ptr 1 64 0 []), (.mapr 2), (.agg [(.int .u64 aa), (.int .i64 ab), (.int .i64 ac), (.int .u32 ad)]), (.int .i64 af), (.int .u64 ag), (.bool ah)])), (.box true 64 (.agg [(.sl 3 111 0 ae), (.bool ai), (.bool aj), (.int .i64 ak), (.int .i64 al), (.int .i64 am)])), (.map false 9 77 x2), (.row true 111 x3), (.map true 9 77 z18)])) := by kernel_rfl
theorem R10_5_eq (t23 : List PV) (t24 : Int) (aa : Int) (ab : Int) (ac : Int) (ad : Int) (af : Int) (ag : Int) (ah : Bool) (ae : Nat) (ai : Bool) (aj : Bool) (ak : Int) (al : Int) (am : Int) (x2 : List PV) (x3 : List PV) (G : Ex → St → Prop) : ∀ (n : Nat) (t25 : Int) (x4 : List PV), evLoop C10 (codeOf Try.f10 [1, 1, 1, 0, 1, 0, 0]) n (mkSt ((.ptr 0 57 0 []) :: skU 4 ((.mapr 4) :: skU 17 ((.list 36 t23) :: (.int .i64 t24) :: (.int .i64 t25) :: skU 117 []))) [(.box true 57 (.agg [(.ptr 1 64 0 []), (.mapr 2), (.agg [(.int .u64 aa), (.int .i64 ab), (.int .i64 ac), (.int .u32 ad)]), (.int .i64 af), (.int .u64 ag), (.bool ah)])), (.box true 64 (.agg [(.sl 3 111 0 ae), (.bool ai), (.bool aj), (.int .i64 ak), (.int .i64 al), (.int .i64 am)])), (.map false 9 77 x2), (.row true 111 x3), (.map true 9 77 x4)]) G = R10_5 t23 t24 aa ab ac ad af ag ah ae ai aj ak al am x2 x3 (G .ret (mkSt (skU 4 ((.int .i64 2) :: skU 138 [])) [(.box true 57 (.agg [(.ptr 1 64 0 []), (.mapr 2), (.agg [(.int .u64 aa), (.int .i64 ab), (.int .i64 ac), (.int .u32 ad)]), (.int .i64 af), (.int .u64 ag), (.bool ah)])), (.box true 64 (.agg [(.sl 3 111 0 ae), (.bool ai), (.bool aj), (.int .i64 ak), (.int .i64 al), (.int .i64 am)])), (.map false 9 77 x2), (.row true 111 x3)])) (fun z2 z18 => G (.exit 0) (mkSt ((.ptr 0 57 0 []) :: skU 4 ((.mapr 4) :: skU 17 ((.list 36 t23) :: (.int .i64 t24) :: (.int .i64 z2) :: skU 117 []))) [(.box true 57 (.agg [(.ptr 1 64 0 []), (.mapr 2), (.agg [(.int .u64 aa), (.int .i64 ab), (.int .i64 ac), (.int .u32 ad)]), (.int .i64 af), (.int .u64 ag), (.bool ah)])), (.box true 64 (.agg [(.sl 3 111 0 ae), (.bool ai), (.bool aj), (.int .i64 ak), (.int .i64 al), (.int .i64 am)])), (.map false 9 77 x2), (.row true 111 x3), (.map true 9 77 z18)])) n t25 x4
  | 0, _, _ => rfl
  | n + 1, t25, x4 => (S10_5_eq t23 t24 t25 aa ab ac ad af ag ah ae ai aj ak al am x2 x3 x4 (fun e s => match e with | .normal => evLoop C10 (codeOf Try.f10 [1, 1, 1, 0, 1, 0, 0]) n s G | .exit id => G (.exit id) s | .ret => G .ret s)).trans (congrArg (fun q => S10_5 t23 t24 aa ab ac ad af ag ah ae ai aj ak al am x2 x3 t25 x4 q (G .ret (mkSt (skU 4 ((.int .i64 2) :: skU 138 [])) [(.box true 57 (.agg [(.ptr 1 64 0 []), (.mapr 2), (.agg [(.int .u64 aa), (.int .i64 ab), (.int .i64 ac), (.int .u32 ad)]), (.int .i64 af), (.int .u64 ag), (.bool ah)])), (.box true 64 (.agg [(.sl 3 111 0 ae), (.bool ai), (.bool aj), (.int .i64 ak), (.int .i64 al), (.int .i64 am)])), (.map false 9 77 x2), (.row true 111 x3)])) (fun z2 z18 => G (.exit 0) (mkSt ((.ptr 0 57 0 []) :: skU 4 ((.mapr 4) :: skU 17 ((.list 36 t23) :: (.int .i64 t24) :: (.int .i64 z2) :: skU 117 []))) [(.box true 57 (.agg [(.ptr 1 64 0 []), (.mapr 2), (.agg [(.int .u64 aa), (.int .i64 ab), (.int .i64 ac), (.int .u32 ad)]), (.int .i64 af), (.int .u64 ag), (.bool ah)])), (.box true 64 (.agg [(.sl 3 111 0 ae), (.bool ai), (.bool aj), (.int .i64 ak), (.int .i64 al), (.int .i64 am)])), (.map false 9 77 x2), (.row true 111 x3), (.map true 9 77 z18)]))) (funext fun t25 => funext fun x4 => R10_5_eq t23 t24 aa ab ac ad af ag ah ae ai aj ak al am x2 x3 G n t25 x4))
theorem R10_5_eqK (t23 : List PV) (t24 : Int) (aa : Int) (ab : Int) (ac : Int) (ad : Int) (af : Int) (ag : Int) (ah : Bool) (ae : Nat) (ai : Bool) (aj : Bool) (ak : Int) (al : Int) (am : Int) (x2 : List PV) (x3 : List PV) (K : Ex → List PV → List Blk → Prop) (n : Nat) (t25 : Int) (x4 : List PV) : R10_5 t23 t24 aa ab ac ad af ag ah ae ai aj ak al am x2 x3 (K .ret (skU 4 ((.int .i64 2) :: skU 138 [])) [(.box true 57 (.agg [(.ptr 1 64 0 []), (.mapr 2), (.agg [(.int .u64 aa), (.int .i64 ab), (.int .i64 ac), (.int .u32 ad)]), (.int .i64 af), (.int .u64 ag), (.bool ah)])), (.box true 64 (.agg [(.sl 3 111 0 ae), (.bool ai), (.bool aj), (.int .i64 ak), (.int .i64 al), (.int .i64 am)])), (.map false 9 77 x2), (.row true 111 x3)]) (fun z2 z18 => K (.exit 0) ((.ptr 0 57 0 []) :: skU 4 ((.mapr 4) :: skU 17 ((.list 36 t23) :: (.int .i64 t24) :: (.int .i64 z2) :: skU 117 []))) [(.box true 57 (.agg [(.ptr 1 64 0 []), (.mapr 2), (.agg [(.int .u64 aa), (.int .i64 ab), (.int .i64 ac), (.int .u32 ad)]), (.int .i64 af), (.int .u64 ag), (.bool ah)])), (.box true 64 (.agg [(.sl 3 111 0 ae), (.bool ai), (.bool aj), (.int .i64 ak), (.int .i64 al), (.int .i64 am)])), (.map false 9 77 x2), (.row true 111 x3), (.map true 9 77 z18)]) n t25 x4 = evLoop C10 (codeOf Try.f10 [1, 1, 1, 0, 1, 0, 0]) n (mkSt ((.ptr 0 57 0 []) :: skU 4 ((.mapr 4) :: skU 17 ((.list 36 t23) :: (.int .i64 t24) :: (.int .i64 t25) :: skU 117 []))) [(.box true 57 (.agg [(.ptr 1 64 0 []), (.mapr 2), (.agg [(.int .u64 aa), (.int .i64 ab), (.int .i64 ac), (.int .u32 ad)]), (.int .i64 af), (.int .u64 ag), (.bool ah)])), (.box true 64 (.agg [(.sl 3 111 0 ae), (.bool ai), (.bool aj), (.int .i64 ak), (.int .i64 al), (.int .i64 am)])), (.map false 9 77 x2), (.row true 111 x3), (.map true 9 77 x4)]) (onSt K) := ((R10_5_eq t23 t24 aa ab ac ad af ag ah ae ai aj ak al am x2 x3 (onSt K) n t25 x4).trans (by kernel_rfl)).symm
theorem Q10_5_ok : LoopOk C10 (codeOf Try.f10 [1, 1, 1, 0, 1, 0, 0]) := LoopOk.of (l := Q10_5) (by kernel_rfl) (fun t bs K h0 => by
    unfold Q10_5 at h0
    obtain ⟨r2, rfl, h2⟩ := pI h0
    obtain ⟨r3, rfl, h3⟩ := skipU_inv h2
    obtain ⟨r5, rfl, h5⟩ := mI h3
    obtain ⟨r6, rfl, h6⟩ := skipU_inv h5
    obtain ⟨t23, r8, rfl, h8⟩ := lI h6
    obtain ⟨t24, r10, rfl, h10⟩ := iI h8
    obtain ⟨t25, r12, rfl, h12⟩ := iI h10
    obtain ⟨r13, rfl, h13⟩ := skipU_inv h12
    obtain ⟨rfl, h14⟩ := nilK_inv h13
    obtain ⟨r17, r15, rfl, h17⟩ := bA h14
    obtain ⟨r19, rfl, h19⟩ := pI h17
    obtain ⟨r21, rfl, h21⟩ := mI h19
    obtain ⟨r24, r23, rfl, h23⟩ := aI h21
    obtain ⟨aa, r26, rfl, h25⟩ := iI h23
    obtain ⟨ab, r28, rfl, h27⟩ := iI h25
    obtain ⟨ac, r30, rfl, h29⟩ := iI h27
    obtain ⟨ad, r32, rfl, h31⟩ := iI h29
    obtain ⟨rfl, h32⟩ := nilK_inv h31
    obtain ⟨af, r34, rfl, h34⟩ := iI h32
    obtain ⟨ag, r36, rfl, h36⟩ := iI h34
    obtain ⟨ah, r38, rfl, h38⟩ := bI h36
    obtain ⟨rfl, h39⟩ := nilK_inv h38
    obtain ⟨r42, r40, rfl, h42⟩ := bA h39
    obtain ⟨ae, r44, rfl, h44⟩ := zI h42
    obtain ⟨ai, r46, rfl, h46⟩ := bI h44
    obtain ⟨aj, r48, rfl, h48⟩ := bI h46
    obtain ⟨ak, r50, rfl, h50⟩ := iI h48
    obtain ⟨al, r52, rfl, h52⟩ := iI h50
    obtain ⟨am, r54, rfl, h54⟩ := iI h52
    obtain ⟨rfl, h55⟩ := nilK_inv h54
    obtain ⟨x2, r56, rfl, h57⟩ := bM h55
    obtain ⟨x3, r58, rfl, h59⟩ := bR h57
    obtain ⟨x4, r60, rfl, h61⟩ := bM h59
    obtain ⟨rfl, h62⟩ := bNilK_inv h61
    have h := h62
    obtain ⟨n, hn⟩ := h
    refine ⟨n, ?_⟩
    rw [← R10_5_eqK t23 t24 aa ab ac ad af ag ah ae ai aj ak al am x2 x3 K n t25 x4]
    exact hn)
theorem J10_26_eq (t14 : Int) (t101n : Nat) (t102 : Int) (t103 : Int) (aa : Int) (ab : Int) (ac : Int) (ad : Int) (af : Int) (ag : Int) (am : Bool) (ae : Nat) (ah : Bool) (ai : Bool) (aj : Int) (ak : Int) (al : Int) (x2 : List PV) (x3 : List PV) (x4 : List PV) (an : Int) (ao : Int) (ap : Int) (aq : Int) (x6 : List PV) (K : Ex → List PV → List Blk → Prop) : J10_26 t14 t101n t102 t103 aa ab ac ad af ag am ae ah ai aj ak al x2 x3 x4 an ao ap aq x6 (K .ret (skU 4 ((.int .i64 36) :: skU 138 [])) [(.box true 57 (.agg [(.ptr 1 64 0 []), (.mapr 2), (.agg [(.int .u64 aa), (.int .i64 ab), (.int .i64 ac), (.int .u32 ad)]), (.int .i64 af), (.int .u64 ag), (.bool true)])), (.box true 64 (.agg [(.sl 3 111 0 ae), (.bool ah), (.bool ai), (.int .i64 aj), (.int .i64 ak), (.int .i64 al)])), (.map false 9 77 x2), (.row true 111 x3)]) (K .normal ((.ptr 0 57 0 []) :: skU 4 ((.mapr 4) :: skU 5 ((.ptr 5 55 0 []) :: skU 89 ((.sl 6 83 0 t101n) :: (.int .i64 t102) :: (.int .i64 t103) :: skU 39 [])))) [(.box true 57 (.agg [(.ptr 1 64 0 []), (.mapr 2), (.agg [(.int .u64 aa), (.int .i64 ab), (.int .i64 ac), (.int .u32 ad)]), (.int .i64 af), (.int .u64 ag), (.bool am)])), (.box true 64 (.agg [(.sl 3 111 0 ae), (.bool ah), (.bool ai), (.int .i64 aj), (.int .i64 ak), (.int .i64 al)])), (.map false 9 77 x2), (.row true 111 x3), (.map false 9 77 x4), (.box true 55 (.agg [(.int .u64 an), (.int .i64 ao), (.int .i64 ap), (.int .u32 aq)])), (.row true 83 x6)]) = evC C10 (codeOf Try.f10 [1, 1, 1, 1, 1, 1, 1, 1, 1, 0, 1, 0, 0, 1, 1, 0, 0, 1, 1]) (mkSt ((.ptr 0 57 0 []) :: skU 4 ((.mapr 4) :: skU 5 ((.ptr 5 55 0 []) :: skU 2 ((.int .i64 t14) :: skU 86 ((.sl 6 83 0 t101n) :: (.int .i64 t102) :: (.int .i64 t103) :: skU 39 []))))) [(.box true 57 (.agg [(.ptr 1 64 0 []), (.mapr 2), (.agg [(.int .u64 aa), (.int .i64 ab), (.int .i64 ac), (.int .u32 ad)]), (.int .i64 af), (.int .u64 ag), (.bool am)])), (.box true 64 (.agg [(.sl 3 111 0 ae), (.bool ah), (.bool ai), (.int .i64 aj), (.int .i64 ak), (.int .i64 al)])), (.map false 9 77 x2), (.row true 111 x3), (.map false 9 77 x4), (.box true 55 (.agg [(.int .u64 an), (.int .i64 ao), (.int .i64 ap), (.int .u32 aq)])), (.row true 83 x6)]) (onSt K) := by kernel_rfl
theorem Q10_26_ok : RestOk C10 (codeOf Try.f10 [1, 1, 1, 1, 1, 1, 1, 1, 1, 0, 1, 0, 0, 1, 1, 0, 0, 1, 1]) := RestOk.to (l := Q10_26) (by kernel_rfl) (by
    intro t bs K h0
    unfold Q10_26 at h0
    obtain ⟨r2, rfl, h2⟩ := pI h0
    obtain ⟨r3, rfl, h3⟩ := skipU_inv h2
    obtain ⟨r5, rfl, h5⟩ := mI h3
    obtain ⟨r6, rfl, h6⟩ := skipU_inv h5
    obtain ⟨r8, rfl, h8⟩ := pI h6
    obtain ⟨r9, rfl, h9⟩ := skipU_inv h8
    obtain ⟨t14, r11, rfl, h11⟩ := iI h9
    obtain ⟨r12, rfl, h12⟩ := skipU_inv h11
    obtain ⟨t101n, r14, rfl, h14⟩ := zI h12
    obtain ⟨t102, r16, rfl, h16⟩ := iI h14
    obtain ⟨t103, r18, rfl, h18⟩ := iI h16
    obtain ⟨r19, rfl, h19⟩ := skipU_inv h18
    obtain ⟨rfl, h20⟩ := nilK_inv h19
    obtain ⟨r23, r21, rfl, h23⟩ := bA h20
    obtain ⟨r25, rfl, h25⟩ := pI h23
    obtain ⟨r27, rfl, h27⟩ := mI h25
    obtain ⟨r30, r29, rfl, h29⟩ := aI h27
    obtain ⟨aa, r32, rfl, h31⟩ := iI h29
    obtain ⟨ab, r34, rfl, h33⟩ := iI h31
    obtain ⟨ac, r36, rfl, h35⟩ := iI h33
    obtain ⟨ad, r38, rfl, h37⟩ := iI h35
    obtain ⟨rfl, h38⟩ := nilK_inv h37
    obtain ⟨af, r40, rfl, h40⟩ := iI h38
    obtain ⟨ag, r42, rfl, h42⟩ := iI h40
    obtain ⟨ah, r44, rfl, h44⟩ := bI h42
    obtain ⟨rfl, h45⟩ := nilK_inv h44
    obtain ⟨r48, r46, rfl, h48⟩ := bA h45
    obtain ⟨ae, r50, rfl, h50⟩ := zI h48
    obtain ⟨ai, r52, rfl, h52⟩ := bI h50
    obtain ⟨aj, r54, rfl, h54⟩ := bI h52
    obtain ⟨ak, r56, rfl, h56⟩ := iI h54
    obtain ⟨al, r58, rfl, h58⟩ := iI h56
    obtain ⟨am, r60, rfl, h60⟩ := iI h58
    obtain ⟨rfl, h61⟩ := nilK_inv h60
    obtain ⟨x2, r62, rfl, h63⟩ := bM h61
    obtain ⟨x3, r64, rfl, h65⟩ := bR h63
    obtain ⟨x4, r66, rfl, h67⟩ := bM h65
    obtain ⟨r70, r68, rfl, h70⟩ := bA h67
    obtain ⟨an, r72, rfl, h72⟩ := iI h70
    obtain ⟨ao, r74, rfl, h74⟩ := iI h72
    obtain ⟨ap, r76, rfl, h76⟩ := iI h74
    obtain ⟨aq, r78, rfl, h78⟩ := iI h76
    obtain ⟨rfl, h79⟩ := nilK_inv h78
    obtain ⟨x6, r80, rfl, h81⟩ := bR h79
    obtain ⟨rfl, h82⟩ := bNilK_inv h81
    have h := h82
    refine ⟨_, _, rfl, rfl, ?_⟩
    rw [← J10_26_eq t14 t101n t102 t103 aa ab ac ad af ag ah ae ai aj ak al am x2 x3 x4 an ao ap aq x6 K]
    exact h)
theorem S10_23_eq (t101n : Nat) (t102 : Int) (t103 : Int) (aa : Int) (ab : Int) (ac : Int) (ad : Int) (af : Int) (ag : Int) (ah : Bool) (ae : Nat) (ai : Bool) (aj : Bool) (ak : Int) (al : Int) (am : Int) (x2 : List PV) (x3 : List PV) (x4 : List PV) (an : Int) (ao : Int) (ap : Int) (aq : Int) (x6 : List PV) (G : Ex → St → Prop) : evC C10 (codeOf Try.f10 [1, 1, 1, 1, 1, 1, 1, 1, 1, 0, 1, 0, 0]) (mkSt ((.ptr 0 57 0 []) :: skU 4 ((.mapr 4) :: skU 5 ((.ptr 5 55 0 []) :: skU 89 ((.sl 6 83 0 t101n) :: (.int .i64 t102) :: (.int .i64 t103) :: skU 39 [])))) [(.box true 57 (.agg [(.ptr 1 64 0 []), (.mapr 2), (.agg [(.int .u64 aa), (.int .i64 ab), (.int .i64 ac), (.int .u32 ad)]), (.int .i64 af), (.int .u64 ag), (.bool ah)])), (.box true 64 (.agg [(.sl 3 111 0 ae), (.bool ai), (.bool aj), (.int .i64 ak), (.int .i64 al), (.int .i64 am)])), (.map false 9 77 x2), (.row true 111 x3), (.map false 9 77 x4), (.box true 55 (.agg [(.int .u64 an), (.int .i64 ao), (.int .i64 ap), (.int .u32 aq)])), (.row true 83 x6)]) G = S10_23 t101n t102 aa ab ac ad af ag ah x2 x4 an ao ap aq x6 t103 ae ai aj ak al am x3 (fun t103 ae ai aj ak al am x3 => G .normal (mkSt ((.ptr 0 57 0 []) :: skU 4 ((.mapr 4) :: skU 5 ((.ptr 5 55 0 []) :: skU 89 ((.sl 6 83 0 t101n) :: (.int .i64 t102) :: (.int .i64 t103) :: skU 39 [])))) [(.box true 57 (.agg [(.ptr 1 64 0 []), (.mapr 2), (.agg [(.int .u64 aa), (.int .i64 ab), (.int .i64 ac), (.int .u32 ad)]), (.int .i64 af), (.int .u64 ag), (.bool ah)])), (.box true 64 (.agg [(.sl 3 111 0 ae), (.bool ai), (.bool aj), (.int .i64 ak), (.int .i64 al), (.int .i64 am)])), (.map false 9 77 x2), (.row true 111 x3), (.map false 9 77 x4), (.box true 55 (.agg [(.int .u64 an), (.int .i64 ao), (.int .i64 ap), (.int .u32 aq)])), (.row true 83 x6)])) (fun z8 z9 z10 z11 z12 z13 z15 => G .ret (mkSt (skU 4 ((.int .i64 36) :: skU 138 [])) [(.box true 57 (.agg [(.ptr 1 64 0 []), (.mapr 2), (.agg [(.int .u64 aa), (.int .i64 ab), (.int .i64 ac), (.int .u32 ad)]), (.int .i64 af), (.int .u64 ag), (.bool true)])), (.box true 64 (.agg [(.sl 3 111 0 z8), (.bool z9), (.bool z10), (.int .i64 z11), (.int .i64 z12), (.int .i64 z13)])), (.map false 9 77 x2), (.row true 111 z15)])) (fun z2 z10 z11 z12 z13 z14 z15 z17 => G (.exit 3) (mkSt ((.ptr 0 57 0 []) :: skU 4 ((.mapr 4) :: skU 5 ((.ptr 5 55 0 []) :: skU 89 ((.sl 6 83 0 t101n) :: (.int .i64 t102) :: (.int .i64 z2) :: skU 39 [])))) [(.box true 57 (.agg [(.ptr 1 64 0 []), (.mapr 2), (.agg [(.int .u64 aa), (.int .i64 ab), (.int .i64 ac), (.int .u32 ad)]), (.int .i64 af), (.int .u64 ag), (.bool ah)])), (.box true 64 (.agg [(.sl 3 111 0 z10), (.bool z11), (.bool z12), (.int .i64 z13), (.int .i64 z14), (.int .i64 z15)])), (.map false 9 77 x2), (.row true 111 z17), (.map false 9 77 x4), (.box true 55 (.agg [(.int .u64 an), (.int .i64 ao), (.int .i64 ap), (.int .u32 aq)])), (.row true 83 x6)])) := by kernel_rfl
theorem R10_23_eq (t101n : Nat) (t102 : Int) (aa : Int) (ab : Int) (ac : Int) (ad : Int) (ae : Int) (af : Int) (ah : Bool) (x2 : List PV) (x4 : List PV) (ai : Int) (aj : Int) (ak : Int) (al : Int) (x6 : List PV) (G : Ex → St → Prop) : ∀ (n : Nat) (t103 : Int) (ag : Nat) (am : Bool) (an : Bool) (ao : Int) (ap : Int) (aq : Int) (x3 : List PV), evLoop C10 (codeOf Try.f10 [1, 1, 1, 1, 1, 1, 1, 1, 1, 0, 1, 0, 0]) n (mkSt ((.ptr 0 57 0 []) :: skU 4 ((.mapr 4) :: skU 5 ((.ptr 5 55 0 []) :: skU 89 ((.sl 6 83 0 t101n) :: (.int .i64 t102) :: (.int .i64 t103) :: skU 39 [])))) [(.box true 57 (.agg [(.ptr 1 64 0 []), (.mapr 2), (.agg [(.int .u64 aa), (.int .i64 ab), (.int .i64 ac), (.int .u32 ad)]), (.int .i64 ae), (.int .u64 af), (.bool ah)])), (.box true 64 (.agg [(.sl 3 111 0 ag), (.bool am), (.bool an), (.int .i64 ao), (.int .i64 ap), (.int .i64 aq)])), (.map false 9 77 x2), (.row true 111 x3), (.map false 9 77 x4), (.box true 55 (.agg [(.int .u64 ai), (.int .i64 aj), (.int .i64 ak), (.int .u32 al)])), (.row true 83 x6)]) G = R10_23 t101n t102 aa ab ac ad ae af ah x2 x4 ai aj ak al x6 (fun z8 z9 z10 z11 z12 z13 z15 => G .ret (mkSt (skU 4 ((.int .i64 36) :: skU 138 [])) [(.box true 57 (.agg [(.ptr 1 64 0 []), (.mapr 2), (.agg [(.int .u64 aa), (.int .i64 ab), (.int .i64 ac), (.int .u32 ad)]), (.int .i64 ae), (.int .u64 af), (.bool true)])), (.box true 64 (.agg [(.sl 3 111 0 z8), (.bool z9), (.bool z10), (.int .i64 z11), (.int .i64 z12), (.int .i64 z13)])), (.map false 9 77 x2), (.row true 111 z15)])) (fun z2 z10 z11 z12 z13 z14 z15 z17 => G (.exit 3) (mkSt ((.ptr 0 57 0 []) :: skU 4 ((.mapr 4) :: skU 5 ((.ptr 5 55 0 []) :: skU 89 ((.sl 6 83 0 t101n) :: (.int .i64 t102) :: (.int .i64 z2) :: skU 39 [])))) [(.box true 57 (.agg [(.ptr 1 64 0 []), (.mapr 2), (.agg [(.int .u64 aa), (.int .i64 ab), (.int .i64 ac), (.int .u32 ad)]), (.int .i64 ae), (.int .u64 af), (.bool ah)])), (.box true 64 (.agg [(.sl 3 111 0 z10), (.bool z11), (.bool z12), (.int .i64 z13), (.int .i64 z14), (.int .i64 z15)])), (.map false 9 77 x2), (.row true 111 z17), (.map false 9 77 x4), (.box true 55 (.agg [(.int .u64 ai), (.int .i64 aj), (.int .i64 ak), (.int .u32 al)])), (.row true 83 x6)])) n t103 ag am an ao ap aq x3
  | 0, _, _, _, _, _, _, _, _ => rfl
  | n + 1, t103, ag, am, an, ao, ap, aq, x3 => (S10_23_eq t101n t102 t103 aa ab ac ad ae af ah ag am an ao ap aq x2 x3 x4 ai aj ak al x6 (fun e s => match e with | .normal => evLoop C10 (codeOf Try.f10 [1, 1, 1, 1, 1, 1, 1, 1, 1, 0, 1, 0, 0]) n s G | .exit id => G (.exit id) s | .ret => G .ret s)).trans (congrArg (fun q => S10_23 t101n t102 aa ab ac ad ae af ah x2 x4 ai aj ak al x6 t103 ag am an ao ap aq x3 q (fun z8 z9 z10 z11 z12 z13 z15 => G .ret (mkSt (skU 4 ((.int .i64 36) :: skU 138 [])) [(.box true 57 (.agg [(.ptr 1 64 0 []), (.mapr 2), (.agg [(.int .u64 aa), (.int .i64 ab), (.int .i64 ac), (.int .u32 ad)]), (.int .i64 ae), (.int .u64 af), (.bool true)])), (.box true 64 (.agg [(.sl 3 111 0 z8), (.bool z9), (.bool z10), (.int .i64 z11), (.int .i64 z12), (.int .i64 z13)])), (.map false 9 77 x2), (.row true 111 z15)])) (fun z2 z10 z11 z12 z13 z14 z15 z17 => G (.exit 3) (mkSt ((.ptr 0 57 0 []) :: skU 4 ((.mapr 4) :: skU 5 ((.ptr 5 55 0 []) :: skU 89 ((.sl 6 83 0 t101n) :: (.int .i64 t102) :: (.int .i64 z2) :: skU 39 [])))) [(.box true 57 (.agg [(.ptr 1 64 0 []), (.mapr 2), (.agg [(.int .u64 aa), (.int .i64 ab), (.int .i64 ac), (.int .u32 ad)]), (.int .i64 ae), (.int .u64 af), (.bool ah)])), (.box true 64 (.agg [(.sl 3 111 0 z10), (.bool z11), (.bool z12), (.int .i64 z13), (.int .i64 z14), (.int .i64 z15)])), (.map false 9 77 x2), (.row true 111 z17), (.map false 9 77 x4), (.box true 55 (.agg [(.int .u64 ai), (.int .i64 aj), (.int .i64 ak), (.int .u32 al)])), (.row true 83 x6)]))) (funext fun t103 => funext fun ag => funext fun am => funext fun an => funext fun ao => funext fun ap => funext fun aq => funext fun x3 => R10_23_eq t101n t102 aa ab ac ad ae af ah x2 x4 ai aj ak al x6 G n t103 ag am an ao ap aq x3))
theorem R10_23_eqK (t101n : Nat) (t102 : Int) (aa : Int) (ab : Int) (ac : Int) (ad : Int) (ae : Int) (af : Int) (ag : Bool) (x2 : List PV) (x4 : List PV) (ah : Int) (ai : Int) (aj : Int) (ak : Int) (x6 : List PV) (K : Ex → List PV → List Blk → Prop) (n : Nat) (t103 : Int) (al : Nat) (am : Bool) (an : Bool) (ao : Int) (ap : Int) (aq : Int) (x3 : List PV) : R10_23 t101n t102 aa ab ac ad ae af ag x2 x4 ah ai aj ak x6 (fun z8 z9 z10 z11 z12 z13 z15 => K .ret (skU 4 ((.int .i64 36) :: skU 138 [])) [(.box true 57 (.agg [(.ptr 1 64 0 []), (.mapr 2), (.agg [(.int .u64 aa), (.int .i64 ab), (.int .i64 ac), (.int .u32 ad)]), (.int .i64 ae), (.int .u64 af), (.bool true)])), (.box true 64 (.agg [(.sl 3 111 0 z8), (.bool z9), (.bool z10), (.int .i64 z11), (.int .i64 z12), (.int .i64 z13)])), (.map false 9 77 x2), (.row true 111 z15)]) (fun z2 z10 z11 z12 z13 z14 z15 z17 => K (.exit 3) ((.ptr 0 57 0 []) :: skU 4 ((.mapr 4) :: skU 5 ((.ptr 5 55 0 []) :: skU 89 ((.sl 6 83 0 t101n) :: (.int .i64 t102) :: (.int .i64 z2) :: skU 39 [])))) [(.box true 57 (.agg [(.ptr 1 64 0 []), (.mapr 2), (.agg [(.int .u64 aa), (.int .i64 ab), (.int .i64 ac), (.int .u32 ad)]), (.int .i64 ae), (.int .u64 af), (.bool ag)])), (.box true 64 (.agg [(.sl 3 111 0 z10), (.bool z11), (.bool z12), (.int .i64 z13), (.int .i64 z14), (.int .i64 z15)])), (.map false 9 77 x2), (.row true 111 z17), (.map false 9 77 x4), (.box true 55 (.agg [(.int .u64 ah), (.int .i64 ai), (.int .i64 aj), (.int .u32 ak)])), (.row true 83 x6)]) n t103 al am an ao ap aq x3 = evLoop C10 (codeOf Try.f10 [1, 1, 1, 1, 1, 1, 1, 1, 1, 0, 1, 0, 0]) n (mkSt ((.ptr 0 57 0 []) :: skU 4 ((.mapr 4) :: skU 5 ((.ptr 5 55 0 []) :: skU 89 ((.sl 6 83 0 t101n) :: (.int .i64 t102) :: (.int .i64 t103) :: skU 39 [])))) [(.box true 57 (.agg [(.ptr 1 64 0 []), (.mapr 2), (.agg [(.int .u64 aa), (.int .i64 ab), (.int .i64 ac), (.int .u32 ad)]), (.int .i64 ae), (.int .u64 af), (.bool ag)])), (.box true 64 (.agg [(.sl 3 111 0 al), (.bool am), (.bool an), (.int .i64 ao), (.int .i64 ap), (.int .i64 aq)])), (.map false 9 77 x2), (.row true 111 x3), (.map false 9 77 x4), (.box true 55 (.agg [(.int .u64 ah), (.int .i64 ai), (.int .i64 aj), (.int .u32 ak)])), (.row true 83 x6)]) (onSt K) := ((R10_23_eq t101n t102 aa ab ac ad ae af ag x2 x4 ah ai aj ak x6 (onSt K) n t103 al am an ao ap aq x3).trans (by kernel_rfl)).symm
theorem Q10_23_ok : LoopOk C10 (codeOf Try.f10 [1, 1, 1, 1, 1, 1, 1, 1, 1, 0, 1, 0, 0]) := LoopOk.of (l := Q10_23) (by kernel_rfl) (fun t bs K h0 => by
    unfold Q10_23 at h0
    obtain ⟨r2, rfl, h2⟩ := pI h0
    obtain ⟨r3, rfl, h3⟩ := skipU_inv h2
    obtain ⟨r5, rfl, h5⟩ := mI h3
    obtain ⟨r6, rfl, h6⟩ := skipU_inv h5
    obtain ⟨r8, rfl, h8⟩ := pI h6
    obtain ⟨r9, rfl, h9⟩ := skipU_inv h8
    obtain ⟨t101n, r11, rfl, h11⟩ := zI h9
    obtain ⟨t102, r13, rfl, h13⟩ := iI h11
    obtain ⟨t103, r15, rfl, h15⟩ := iI h13
    obtain ⟨r16, rfl, h16⟩ := skipU_inv h15
    obtain ⟨rfl, h17⟩ := nilK_inv h16
    obtain ⟨r20, r18, rfl, h20⟩ := bA h17
    obtain ⟨r22, rfl, h22⟩ := pI h20
    obtain ⟨r24, rfl, h24⟩ := mI h22
    obtain ⟨r27, r26, rfl, h26⟩ := aI h24
    obtain ⟨aa, r29, rfl, h28⟩ := iI h26
    obtain ⟨ab, r31, rfl, h30⟩ := iI h28
    obtain ⟨ac, r33, rfl, h32⟩ := iI h30
    obtain ⟨ad, r35, rfl, h34⟩ := iI h32
    obtain ⟨rfl, h35⟩ := nilK_inv h34
    obtain ⟨af, r37, rfl, h37⟩ := iI h35
    obtain ⟨ag, r39, rfl, h39⟩ := iI h37
    obtain ⟨ah, r41, rfl, h41⟩ := bI h39
    obtain ⟨rfl, h42⟩ := nilK_inv h41
    obtain ⟨r45, r43, rfl, h45⟩ := bA h42
    obtain ⟨ae, r47, rfl, h47⟩ := zI h45
    obtain ⟨ai, r49, rfl, h49⟩ := bI h47
    obtain ⟨aj, r51, rfl, h51⟩ := bI h49
    obtain ⟨ak, r53, rfl, h53⟩ := iI h51
    obtain ⟨al, r55, rfl, h55⟩ := iI h53
    obtain ⟨am, r57, rfl, h57⟩ := iI h55
    obtain ⟨rfl, h58⟩ := nilK_inv h57
    obtain ⟨x2, r59, rfl, h60⟩ := bM h58
    obtain ⟨x3, r61, rfl, h62⟩ := bR h60
    obtain ⟨x4, r63, rfl, h64⟩ := bM h62
    obtain ⟨r67, r65, rfl, h67⟩ := bA h64
    obtain ⟨an, r69, rfl, h69⟩ := iI h67
    obtain ⟨ao, r71, rfl, h71⟩ := iI h69
    obtain ⟨ap, r73, rfl, h73⟩ := iI h71
    obtain ⟨aq, r75, rfl, h75⟩ := iI h73
    obtain ⟨rfl, h76⟩ := nilK_inv h75
    obtain ⟨x6, r77, rfl, h78⟩ := bR h76
    obtain ⟨rfl, h79⟩ := bNilK_inv h78
    have h := h79
    obtain ⟨n, hn⟩ := h
    refine ⟨n, ?_⟩
    rw [← R10_23_eqK t101n t102 aa ab ac ad af ag ah x2 x4 an ao ap aq x6 K n t103 ae ai aj ak al am x3]
    exact hn)
theorem J10_31_eq (aa : Int) (ab : Int) (ac : Int) (ad : Int) (af : Int) (ag : Int) (ah : Bool) (ae : Nat) (ai : Bool) (aj : Bool) (ak : Int) (al : Int) (am : Int) (x2 : List PV) (x3 : List PV) (x4 : List PV) (K : Ex → List PV → List Blk → Prop) : J10_31 aa ab ac ad af ag ah ae ai aj ak al am x2 x3 x4 (K .ret (skU 4 ((.int .i64 0) :: skU 138 [])) [(.box true 57 (.agg [(.ptr 1 64 0 []), (.mapr 4), (.agg [(.int .u64 aa), (.int .i64 ab), (.int .i64 ac), (.int .u32 ad)]), (.int .i64 af), (.int .u64 ag), (.bool ah)])), (.box true 64 (.agg [(.sl 3 111 0 ae), (.bool ai), (.bool aj), (.int .i64 ak), (.int .i64 al), (.int .i64 am)])), (.map false 9 77 x2), (.row true 111 x3), (.map false 9 77 x4)]) = evC C10 (codeOf Try.f10 [1, 1, 1, 1, 1, 1, 1, 1, 1, 1, 1]) (mkSt (skU 143 []) [(.box true 57 (.agg [(.ptr 1 64 0 []), (.mapr 4), (.agg [(.int .u64 aa), (.int .i64 ab), (.int .i64 ac), (.int .u32 ad)]), (.int .i64 af), (.int .u64 ag), (.bool ah)])), (.box true 64 (.agg [(.sl 3 111 0 ae), (.bool ai), (.bool aj), (.int .i64 ak), (.int .i64 al), (.int .i64 am)])), (.map false 9 77 x2), (.row true 111 x3), (.map false 9 77 x4)]) (onSt K) := by kernel_rfl
theorem Q10_31_ok : RestOk C10 (codeOf Try.f10 [1, 1, 1, 1, 1, 1, 1, 1, 1, 1, 1]) := RestOk.to (l := Q10_31) (by kernel_rfl) (by
    intro t bs K h0
    unfold Q10_31 at h0
    obtain ⟨r1, rfl, h1⟩ := skipU_inv h0
    obtain ⟨rfl, h2⟩ := nilK_inv h1
    obtain ⟨r5, r3, rfl, h5⟩ := bA h2
    obtain ⟨r7, rfl, h7⟩ := pI h5
    obtain ⟨r9, rfl, h9⟩ := mI h7
    obtain ⟨r12, r11, rfl, h11⟩ := aI h9
    obtain ⟨aa, r14, rfl, h13⟩ := iI h11
    obtain ⟨ab, r16, rfl, h15⟩ := iI h13
    obtain ⟨ac, r18, rfl, h17⟩ := iI h15
    obtain ⟨ad, r20, rfl, h19⟩ := iI h17
    obtain ⟨rfl, h20⟩ := nilK_inv h19
    obtain ⟨af, r22, rfl, h22⟩ := iI h20
    obtain ⟨ag, r24, rfl, h24⟩ := iI h22
    obtain ⟨ah, r26, rfl, h26⟩ := bI h24
    obtain ⟨rfl, h27⟩ := nilK_inv h26
    obtain ⟨r30, r28, rfl, h30⟩ := bA h27
    obtain ⟨ae, r32, rfl, h32⟩ := zI h30
    obtain ⟨ai, r34, rfl, h34⟩ := bI h32
    obtain ⟨aj, r36, rfl, h36⟩ := bI h34
    obtain ⟨ak, r38, rfl, h38⟩ := iI h36
    obtain ⟨al, r40, rfl, h40⟩ := iI h38
    obtain ⟨am, r42, rfl, h42⟩ := iI h40
    obtain ⟨rfl, h43⟩ := nilK_inv h42
    obtain ⟨x2, r44, rfl, h45⟩ := bM h43
    obtain ⟨x3, r46, rfl, h47⟩ := bR h45
    obtain ⟨x4, r48, rfl, h49⟩ := bM h47
    obtain ⟨rfl, h50⟩ := bNilK_inv h49
    have h := h50
    refine ⟨_, _, rfl, rfl, ?_⟩
    rw [← J10_31_eq aa ab ac ad af ag ah ae ai aj ak al am x2 x3 x4 K]
    exact h)
theorem J10_30_eq (t101n : Nat) (t102 : Int) (t103 : Int) (ac : Int) (ad : Int) (ae : Int) (af : Int) (ap : Int) (aq : Int) (ag : Bool) (aa : Nat) (ah : Bool) (ai : Bool) (aj : Int) (ak : Int) (al : Int) (x2 : List PV) (x3 : List PV) (x4 : List PV) (ab : Int) (am : Int) (an : Int) (ao : Int) (x6 : List PV) (K : Ex → List PV → List Blk → Prop) : J10_30 t101n t102 t103 ac ad ae af ap aq ag aa ah ai aj ak al x2 x3 x4 ab am an ao x6 (fun z5 => K .ret (skU 4 ((.int .i64 0) :: skU 138 [])) [(.box true 57 (.agg [(.ptr 1 64 0 []), (.mapr 4), (.agg [(.int .u64 ab), (.int .i64 am), (.int .i64 an), (.int .u32 ao)]), (.int .i64 z5), (.int .u64 ab), (.bool ag)])), (.box true 64 (.agg [(.sl 3 111 0 aa), (.bool ah), (.bool ai), (.int .i64 aj), (.int .i64 ak), (.int .i64 al)])), (.map false 9 77 x2), (.row true 111 x3), (.map false 9 77 x4)]) = evC C10 (codeOf Try.f10 [1, 1, 1, 1, 1, 1, 1, 1, 1, 1]) (mkSt ((.ptr 0 57 0 []) :: skU 4 ((.mapr 4) :: skU 5 ((.ptr 5 55 0 []) :: skU 89 ((.sl 6 83 0 t101n) :: (.int .i64 t102) :: (.int .i64 t103) :: skU 39 [])))) [(.box true 57 (.agg [(.ptr 1 64 0 []), (.mapr 2), (.agg [(.int .u64 ac), (.int .i64 ad), (.int .i64 ae), (.int .u32 af)]), (.int .i64 ap), (.int .u64 aq), (.bool ag)])), (.box true 64 (.agg [(.sl 3 111 0 aa), (.bool ah), (.bool ai), (.int .i64 aj), (.int .i64 ak), (.int .i64 al)])), (.map false 9 77 x2), (.row true 111 x3), (.map false 9 77 x4), (.box true 55 (.agg [(.int .u64 ab), (.int .i64 am), (.int .i64 an), (.int .u32 ao)])), (.row true 83 x6)]) (onSt K) := by kernel_rfl
theorem Q10_30_ok : RestOk C10 (codeOf Try.f10 [1, 1, 1, 1, 1, 1, 1, 1, 1, 1]) := RestOk.to (l := Q10_30) (by kernel_rfl) (by
    intro t bs K h0
    unfold Q10_30 at h0
    obtain ⟨r2, rfl, h2⟩ := pI h0
    obtain ⟨r3, rfl, h3⟩ := skipU_inv h2
    obtain ⟨r5, rfl, h5⟩ := mI h3
    obtain ⟨r6, rfl, h6⟩ := skipU_inv h5
    obtain ⟨r8, rfl, h8⟩ := pI h6
    obtain ⟨r9, rfl, h9⟩ := skipU_inv h8
    obtain ⟨t101n, r11, rfl, h11⟩ := zI h9
    obtain ⟨t102, r13, rfl, h13⟩ := iI h11
    obtain ⟨t103, r15, rfl, h15⟩ := iI h13
    obtain ⟨r16, rfl, h16⟩ := skipU_inv h15
    obtain ⟨rfl, h17⟩ := nilK_inv h16
    obtain ⟨r20, r18, rfl, h20⟩ := bA h17
    obtain ⟨r22, rfl, h22⟩ := pI h20
    obtain ⟨r24, rfl, h24⟩ := mI h22
    obtain ⟨r27, r26, rfl, h26⟩ := aI h24
    obtain ⟨aa, r29, rfl, h28⟩ := iI h26
    obtain ⟨ab, r31, rfl, h30⟩ := iI h28
    obtain ⟨ac, r33, rfl, h32⟩ := iI h30
    obtain ⟨ad, r35, rfl, h34⟩ := iI h32
    obtain ⟨rfl, h35⟩ := nilK_inv h34
    obtain ⟨af, r37, rfl, h37⟩ := iI h35
    obtain ⟨ag, r39, rfl, h39⟩ := iI h37
    obtain ⟨ah, r41, rfl, h41⟩ := bI h39
    obtain ⟨rfl, h42⟩ := nilK_inv h41
    obtain ⟨r45, r43, rfl, h45⟩ := bA h42
    obtain ⟨ae, r47, rfl, h47⟩ := zI h45
    obtain ⟨ai, r49, rfl, h49⟩ := bI h47
    obtain ⟨aj, r51, rfl, h51⟩ := bI h49
    obtain ⟨ak, r53, rfl, h53⟩ := iI h51
    obtain ⟨al, r55, rfl, h55⟩ := iI h53
    obtain ⟨am, r57, rfl, h57⟩ := iI h55
    obtain ⟨rfl, h58⟩ := nilK_inv h57
    obtain ⟨x2, r59, rfl, h60⟩ := bM h58
    obtain ⟨x3, r61, rfl, h62⟩ := bR h60
    obtain ⟨x4, r63, rfl, h64⟩ := bM h62
    obtain ⟨r67, r65, rfl, h67⟩ := bA h64
    obtain ⟨an, r69, rfl, h69⟩ := iI h67
    obtain ⟨ao, r71, rfl, h71⟩ := iI h69
    obtain ⟨ap, r73, rfl, h73⟩ := iI h71
    obtain ⟨aq, r75, rfl, h75⟩ := iI h73
    obtain ⟨rfl, h76⟩ := nilK_inv h75
    obtain ⟨x6, r77, rfl, h78⟩ := bR h76
    obtain ⟨rfl, h79⟩ := bNilK_inv h78
    have h := h79
    refine ⟨_, _, rfl, rfl, ?_⟩
    rw [← J10_30_eq t101n t102 t103 aa ab ac ad af ag ah ae ai aj ak al am x2 x3 x4 an ao ap aq x6 K]
    exact h)
theorem J10_22_eq (t8 : List PV) (t9 : Int) (aa : Int) (ab : Int) (ac : Int) (ad : Int) (af : Int) (ag : Int) (ah : Bool) (al : Nat) (am : Bool) (an : Bool) (ao : Int) (ap : Int) (aq : Int) (x2 : List PV) (x3 : List PV) (x4 : List PV) (ae : Int) (ai : Int) (aj : Int) (ak : Int) (K : Ex → List PV → List Blk → Prop) : J10_22 t8 t9 aa ab ac ad af ag ah al am an ao ap aq x2 x3 x4 ae ai aj ak (fun z8 z9 z10 z11 z12 z13 z15 => K .ret (skU 4 ((.int .i64 36) :: skU 138 [])) [(.box true 57 (.agg [(.ptr 1 64 0 []), (.mapr 2), (.agg [(.int .u64 aa), (.int .i64 ab), (.int .i64 ac), (.int .u32 ad)]), (.int .i64 af), (.int .u64 ag), (.bool true)])), (.box true 64 (.agg [(.sl 3 111 0 z8), (.bool z9), (.bool z10), (.int .i64 z11), (.int .i64 z12), (.int .i64 z13)])), (.map false 9 77 x2), (.row true 111 z15)]) (fun z5 z8 z9 z10 z11 z12 z13 z15 => K .ret (skU 4 ((.int .i64 0) :: skU 138 [])) [(.box true 57 (.agg [(.ptr 1 64 0 []), (.mapr 4), (.agg [(.int .u64 ae), (.int .i64 ai), (.int .i64 aj), (.int .u32 ak)]), (.int .i64 z5), (.int .u64 ae), (.bool ah)])), (.box true 64 (.agg [(.sl 3 111 0 z8), (.bool z9), (.bool z10), (.int .i64 z11), (.int .i64 z12), (.int .i64 z13)])), (.map false 9 77 x2), (.row true 111 z15), (.map false 9 77 x4)]) = evC C10 (codeOf Try.f10 [1, 1, 1, 1, 1, 1, 1, 1, 1]) (mkSt ((.ptr 0 57 0 []) :: skU 4 ((.mapr 4) :: skU 2 ((.list 5 t8) :: (.int .i64 t9) :: skU 1 ((.ptr 5 55 0 []) :: skU 131 [])))) [(.box true 57 (.agg [(.ptr 1 64 0 []), (.mapr 2), (.agg [(.int .u64 aa), (.int .i64 ab), (.int .i64 ac), (.int .u32 ad)]), (.int .i64 af), (.int .u64 ag), (.bool ah)])), (.box true 64 (.agg [(.sl 3 111 0 al), (.bool am), (.bool an), (.int .i64 ao), (.int .i64 ap), (.int .i64 aq)])), (.map false 9 77 x2), (.row true 111 x3), (.map false 9 77 x4), (.box true 55 (.agg [(.int .u64 ae), (.int .i64 ai), (.int .i64 aj), (.int .u32 ak)]))]) (onSt K) := by kernel_rfl
theorem Q10_22_ok : RestOk C10 (codeOf Try.f10 [1, 1, 1, 1, 1, 1, 1, 1, 1]) := RestOk.to (l := Q10_22) (by kernel_rfl) (by
    intro t bs K h0
    unfold Q10_22 at h0
    obtain ⟨r2, rfl, h2⟩ := pI h0
    obtain ⟨r3, rfl, h3⟩ := skipU_inv h2
    obtain ⟨r5, rfl, h5⟩ := mI h3
    obtain ⟨r6, rfl, h6⟩ := skipU_inv h5
    obtain ⟨t8, r8, rfl, h8⟩ := lI h6
    obtain ⟨t9, r10, rfl, h10⟩ := iI h8
    obtain ⟨r11, rfl, h11⟩ := skipU_inv h10
    obtain ⟨r13, rfl, h13⟩ := pI h11
    obtain ⟨r14, rfl, h14⟩ := skipU_inv h13
    obtain ⟨rfl, h15⟩ := nilK_inv h14
    obtain ⟨r18, r16, rfl, h18⟩ := bA h15
    obtain ⟨r20, rfl, h20⟩ := pI h18
    obtain ⟨r22, rfl, h22⟩ := mI h20
    obtain ⟨r25, r24, rfl, h24⟩ := aI h22
    obtain ⟨aa, r27, rfl, h26⟩ := iI h24
    obtain ⟨ab, r29, rfl, h28⟩ := iI h26
    obtain ⟨ac, r31, rfl, h30⟩ := iI h28
    obtain ⟨ad, r33, rfl, h32⟩ := iI h30
    obtain ⟨rfl, h33⟩ := nilK_inv h32
    obtain ⟨af, r35, rfl, h35⟩ := iI h33
    obtain ⟨ag, r37, rfl, h37⟩ := iI h35
    obtain ⟨ah, r39, rfl, h39⟩ := bI h37
    obtain ⟨rfl, h40⟩ := nilK_inv h39
    obtain ⟨r43, r41, rfl, h43⟩ := bA h40
    obtain ⟨ae, r45, rfl, h45⟩ := zI h43
    obtain ⟨ai, r47, rfl, h47⟩ := bI h45
    obtain ⟨aj, r49, rfl, h49⟩ := bI h47
    obtain ⟨ak, r51, rfl, h51⟩ := iI h49
    obtain ⟨al, r53, rfl, h53⟩ := iI h51
    obtain ⟨am, r55, rfl, h55⟩ := iI h53
    obtain ⟨rfl, h56⟩ := nilK_inv h55
    obtain ⟨x2, r57, rfl, h58⟩ := bM h56
    obtain ⟨x3, r59, rfl, h60⟩ := bR h58
    obtain ⟨x4, r61, rfl, h62⟩ := bM h60
    obtain ⟨r65, r63, rfl, h65⟩ := bA h62
    obtain ⟨an, r67, rfl, h67⟩ := iI h65
    obtain ⟨ao, r69, rfl, h69⟩ := iI h67
    obtain ⟨ap, r71, rfl, h71⟩ := iI h69
    obtain ⟨aq, r73, rfl, h73⟩ := iI h71
    obtain ⟨rfl, h74⟩ := nilK_inv h73
    obtain ⟨rfl, h75⟩ := bNilK_inv h74
    have h := h75
    refine ⟨_, _, rfl, rfl, ?_⟩
    rw [← J10_22_eq t8 t9 aa ab ac ad af ag ah ae ai aj ak al am x2 x3 x4 an ao ap aq K]
    exact h)
theorem B10_eq (l : List PV) (snumber : Int) (sfirst : Int) (slong : Int) (ssum : Int) (place : Int) (top : Int) (soff : Bool) (dn : Nat) (off : Bool) (cut : Bool) (whole : Int) (kept : Int) (writes : Int) (pairs : List PV) (secs : List PV) (K : List Blk → List PV → Prop) : evF C10 Try.f10 [(.box true 57 (.agg [(.ptr 1 64 0 []), (.mapr 2), (.agg [(.int .u64 snumber), (.int .i64 sfirst), (.int .i64 slong), (.int .u32 ssum)]), (.int .i64 place), (.int .u64 top), (.bool soff)])), (.box true 64 (.agg [(.sl 3 111 0 dn), (.bool off), (.bool cut), (.int .i64 whole), (.int .i64 kept), (.int .i64 writes)])), (.map false 9 77 pairs), (.row true 111 secs)] [(.ptr 0 57 0 []), (.list 36 l)] K = (([(.box true 57 (.agg [(.ptr 1 64 0 []), (.mapr 2), (.agg [(.int .u64 snumber), (.int .i64 sfirst), (.int .i64 slong), (.int .u32 ssum)]), (.int .i64 place), (.int .u64 top), (.bool soff)])), (.box true 64 (.agg [(.sl 3 111 0 dn), (.bool off), (.bool cut), (.int .i64 whole), (.int .i64 kept), (.int .i64 writes)])), (.map false 9 77 pairs), (.row true 111 secs)] : List Blk).length = 4 ∧ B10 l snumber sfirst slong ssum place top soff dn off cut whole kept writes pairs secs (fun z0 z1 z2 z3 z4 z5 z6 z7 z8 z9 z10 z11 z12 z13 z14 z15 => K [(.box true 57 (.agg [(.ptr 1 64 0 []), (.mapr 2), (.agg [(.int .u64 z1), (.int .i64 z2), (.int .i64 z3), (.int .u32 z4)]), (.int .i64 z5), (.int .u64 z6), (.bool z7)])), (.box true 64 (.agg [(.sl 3 111 0 z8), (.bool z9), (.bool z10), (.int .i64 z11), (.int .i64 z12), (.int .i64 z13)])), (.map false 9 77 z14), (.row true 111 z15)] [(.int .i64 z0)]) (fun z0 z1 z2 z3 z4 z5 z6 z7 z8 z9 z10 z11 z12 z13 z14 z15 => K [(.box true 57 (.agg [(.ptr 1 64 0 []), (.mapr 4), (.agg [(.int .u64 z0), (.int .i64 z1), (.int .i64 z2), (.int .u32 z3)]), (.int .i64 z4), (.int .u64 z5), (.bool z6)])), (.box true 64 (.agg [(.sl 3 111 0 z7), (.bool z8), (.bool z9), (.int .i64 z10), (.int .i64 z11), (.int .i64 z12)])), (.map false 9 77 z13), (.row true 111 z14), (.map false 9 77 z15)] [(.int .i64 0)])) := by kernel_rfl
theorem W10_of (hT : AllSound Try.prog pvT pvG T10) : Sound Try.prog pvT pvG 10 W10 := Sound.weak (evF_sound (C := C10) (Base.of pvT_fits pvT_sized pvT_eq hT pvMixed pvIt_ok) Try.func10 (LoopsOk.of (C := C10) (fn := Try.f10) (l := [codeOf Try.f10 [1, 1, 1, 0, 1, 0, 0], codeOf Try.f10 [1, 1, 1, 1, 1, 1, 1, 1, 1, 0, 1, 0, 0]]) (r := [codeOf Try.f10 [1], codeOf Try.f10 [1, 1], codeOf Try.f10 [1, 0, 1], codeOf Try.f10 [1, 0, 1, 0, 1], codeOf Try.f10 [1, 1, 1], codeOf Try.f10 [1, 1, 1, 1], codeOf Try.f10 [1, 1, 1, 0, 1], codeOf Try.f10 [1, 1, 1, 0, 1, 0, 0, 1], codeOf Try.f10 [1, 1, 1, 0, 1, 0, 0, 1, 1], codeOf Try.f10 [1, 1, 1, 0, 1, 0, 0, 1, 1, 1], codeOf Try.f10 [1, 1, 1, 0, 1, 0, 0, 1, 1, 0, 0, 1], codeOf Try.f10 [1, 1, 1, 0, 1, 0, 0, 1, 1, 0, 0, 1, 1], codeOf Try.f10 [1, 1, 1, 0, 1, 0, 0, 1, 1, 0, 0, 1, 0, 1], codeOf Try.f10 [1, 1, 1, 0, 1, 0, 0, 1, 1, 0, 0, 1, 0, 1, 0, 1], codeOf Try.f10 [1, 1, 1, 0, 1, 0, 0, 1, 1, 0, 0, 1, 1, 1], codeOf Try.f10 [1, 1, 1, 0, 1, 0, 0, 1, 1, 0, 0, 1, 1, 1, 1], codeOf Try.f10 [1, 1, 1, 1, 1], codeOf Try.f10 [1, 1, 1, 1, 0, 1], codeOf Try.f10 [1, 1, 1, 1, 0, 1, 0, 1], codeOf Try.f10 [1, 1, 1, 1, 1, 1], codeOf Try.f10 [1, 1, 1, 1, 1, 1, 1], codeOf Try.f10 [1, 1, 1, 1, 1, 1, 1, 1], codeOf Try.f10 [1, 1, 1, 1, 1, 1, 1, 0, 0, 1], codeOf Try.f10 [1, 1, 1, 1, 1, 1, 1, 0, 0, 1, 0, 1], codeOf Try.f10 [1, 1, 1, 1, 1, 1, 1, 0, 0, 1, 1, 1], codeOf Try.f10 [1, 1, 1, 1, 1, 1, 1, 0, 0, 1, 1, 1, 0, 1], codeOf Try.f10 [1, 1, 1, 1, 1, 1, 1, 1, 1], codeOf Try.f10 [1, 1, 1, 1, 1, 1, 1, 1, 1, 1], codeOf Try.f10 [1, 1, 1, 1, 1, 1, 1, 1, 1, 0, 1], codeOf Try.f10 [1, 1, 1, 1, 1, 1, 1, 1, 1, 0, 1, 0, 0, 1], codeOf Try.f10 [1, 1, 1, 1, 1, 1, 1, 1, 1, 0, 1, 0, 0, 1, 1], codeOf Try.f10 [1, 1, 1, 1, 1, 1, 1, 1, 1, 0, 1, 0, 0, 1, 1, 1], codeOf Try.f10 [1, 1, 1, 1, 1, 1, 1, 1, 1, 0, 1, 0, 0, 1, 1, 0, 0, 1], codeOf Try.f10 [1, 1, 1, 1, 1, 1, 1, 1, 1, 0, 1, 0, 0, 1, 1, 0, 0, 1, 1], codeOf Try.f10 [1, 1, 1, 1, 1, 1, 1, 1, 1, 0, 1, 0, 0, 1, 1, 0, 0, 1, 1, 1], codeOf Try.f10 [1, 1, 1, 1, 1, 1, 1, 1, 1, 0, 1, 0, 0, 1, 1, 0, 0, 1, 1, 1, 0, 1], codeOf Try.f10 [1, 1, 1, 1, 1, 1, 1, 1, 1, 0, 1, 0, 0, 1, 1, 0, 0, 1, 1, 1, 0, 1, 1], codeOf Try.f10 [1, 1, 1, 1, 1, 1, 1, 1, 1, 1, 1], codeOf Try.f10 [1, 1, 1, 1, 1, 1, 1, 1, 1, 1, 1, 1]]) (g := []) (by kernel_rfl) (by kernel_rfl) (by kernel_rfl) ⟨Q10_5_ok, ⟨Q10_23_ok, trivial⟩⟩ ⟨(RestOk.none (by kernel_rfl)), ⟨(RestOk.none (by kernel_rfl)), ⟨(RestOk.none (by kernel_rfl)), ⟨(RestOk.none (by kernel_rfl)), ⟨(RestOk.none (by kernel_rfl)), ⟨(RestOk.none (by kernel_rfl)), ⟨(RestOk.none (by kernel_rfl)), ⟨(RestOk.none (by kernel_rfl)), ⟨(RestOk.none (by kernel_rfl)), ⟨(RestOk.none (by kernel_rfl)), ⟨(RestOk.none (by kernel_rfl)), ⟨(RestOk.none (by kernel_rfl)), ⟨(RestOk.none (by kernel_rfl)), ⟨(RestOk.none (by kernel_rfl)), ⟨(RestOk.none (by kernel_rfl)), ⟨(RestOk.none (by kernel_rfl)), ⟨(RestOk.none (by kernel_rfl)), ⟨(RestOk.none (by kernel_rfl)), ⟨(RestOk.none (by kernel_rfl)), ⟨(RestOk.none (by kernel_rfl)), ⟨(RestOk.none (by kernel_rfl)), ⟨(RestOk.none (by kernel_rfl)), ⟨(RestOk.none (by kernel_rfl)), ⟨(RestOk.none (by kernel_rfl)), ⟨(RestOk.none (by kernel_rfl)), ⟨(RestOk.none (by kernel_rfl)), ⟨Q10_22_ok, ⟨Q10_30_ok, ⟨(RestOk.none (by kernel_rfl)), ⟨(RestOk.none (by kernel_rfl)), ⟨(RestOk.none (by kernel_rfl)), ⟨(RestOk.none (by kernel_rfl)), ⟨(RestOk.none (by kernel_rfl)), ⟨Q10_26_ok, ⟨(RestOk.none (by kernel_rfl)), ⟨(RestOk.none (by kernel_rfl)), ⟨(RestOk.none (by kernel_rfl)), ⟨Q10_31_ok, ⟨(RestOk.none (by kernel_rfl)), trivial⟩⟩⟩⟩⟩⟩⟩⟩⟩⟩⟩⟩⟩⟩⟩⟩⟩⟩⟩⟩⟩⟩⟩⟩⟩⟩⟩⟩⟩⟩⟩⟩⟩⟩⟩⟩⟩⟩⟩ trivial) (evF_to (C := C10) (fun bs t K h0 => by
    unfold P10 at h0
    obtain ⟨r2, rfl, h2⟩ := pI h0
    obtain ⟨l, r4, rfl, h4⟩ := lI h2
    obtain ⟨rfl, h5⟩ := nilK_inv h4
    obtain ⟨r8, r6, rfl, h8⟩ := bA h5
    obtain ⟨r10, rfl, h10⟩ := pI h8
    obtain ⟨r12, rfl, h12⟩ := mI h10
    obtain ⟨r15, r14, rfl, h14⟩ := aI h12
    obtain ⟨snumber, r17, rfl, h16⟩ := iI h14
    obtain ⟨sfirst, r19, rfl, h18⟩ := iI h16
    obtain ⟨slong, r21, rfl, h20⟩ := iI h18
    obtain ⟨ssum, r23, rfl, h22⟩ := iI h20
    obtain ⟨rfl, h23⟩ := nilK_inv h22
    obtain ⟨place, r25, rfl, h25⟩ := iI h23
    obtain ⟨top, r27, rfl, h27⟩ := iI h25
    obtain ⟨soff, r29, rfl, h29⟩ := bI h27
    obtain ⟨rfl, h30⟩ := nilK_inv h29
    obtain ⟨r33, r31, rfl, h33⟩ := bA h30
    obtain ⟨dn, r35, rfl, h35⟩ := zI h33
    obtain ⟨off, r37, rfl, h37⟩ := bI h35
    obtain ⟨cut, r39, rfl, h39⟩ := bI h37
    obtain ⟨whole, r41, rfl, h41⟩ := iI h39
    obtain ⟨kept, r43, rfl, h43⟩ := iI h41
    obtain ⟨writes, r45, rfl, h45⟩ := iI h43
    obtain ⟨rfl, h46⟩ := nilK_inv h45
    obtain ⟨pairs, r47, rfl, h48⟩ := bM h46
    obtain ⟨secs, r49, rfl, h50⟩ := bR h48
    obtain ⟨rfl, h51⟩ := bNilK_inv h50
    have h := h51
    refine ⟨_, _, rfl, rfl, ?_⟩
    rw [B10_eq l snumber sfirst slong ssum place top soff dn off cut whole kept writes pairs secs K]
    exact ⟨rfl, h⟩))) _
end Pv

namespace Pv
open Go Go.Proofs

theorem J45_7_eq (aa : Nat) (ab : Bool) (ac : Bool) (ad : Int) (ae : Int) (af : Int) (x1 : List PV) (x3 : Int) (x4 : Int) (K : Ex → List PV → List Blk → Prop) : J45_7 aa ab ac ad ae af x1 x3 x4 (fun z7 z8 => K .normal (skU 29 []) [(.box true 64 (.agg [(.sl 1 111 0 aa), (.bool ab), (.bool ac), (.int .i64 ad), (.int .i64 ae), (.int .i64 af)])), (.row true 111 x1), (.box true 24 (.ptr 0 64 0 [])), (.box true 3 (.int .i64 z7)), (.box true 3 (.int .i64 z8))]) = evC C45r3 (codeOf Try.f45 [1, 1, 0, 1, 0, 1, 1, 1, 1]) (mkSt (skU 5 ((.ptr 3 3 0 []) :: skU 1 ((.ptr 4 3 0 []) :: skU 21 []))) [(.box true 64 (.agg [(.sl 1 111 0 aa), (.bool ab), (.bool ac), (.int .i64 ad), (.int .i64 ae), (.int .i64 af)])), (.row true 111 x1), (.box true 24 (.ptr 0 64 0 [])), (.box true 3 (.int .i64 x3)), (.box true 3 (.int .i64 x4))]) (onSt K) := by kernel_rfl
theorem Q45_7_ok : RestOk C45r3 (codeOf Try.f45 [1, 1, 0, 1, 0, 1, 1, 1, 1]) := RestOk.to (l := Q45_7) (by kernel_rfl) (by
    intro t bs K h0
    unfold Q45_7 at h0
    obtain ⟨r1, rfl, h1⟩ := skipU_inv h0
    obtain ⟨r3, rfl, h3⟩ := pI h1
    obtain ⟨r4, rfl, h4⟩ := skipU_inv h3
    obtain ⟨r6, rfl, h6⟩ := pI h4
    obtain ⟨r7, rfl, h7⟩ := skipU_inv h6
    obtain ⟨rfl, h8⟩ := nilK_inv h7
    obtain ⟨r11, r9, rfl, h11⟩ := bA h8
    obtain ⟨aa, r13, rfl, h13⟩ := zI h11
    obtain ⟨ab, r15, rfl, h15⟩ := bI h13
    obtain ⟨ac, r17, rfl, h17⟩ := bI h15
    obtain ⟨ad, r19, rfl, h19⟩ := iI h17
    obtain ⟨ae, r21, rfl, h21⟩ := iI h19
    obtain ⟨af, r23, rfl, h23⟩ := iI h21
    obtain ⟨rfl, h24⟩ := nilK_inv h23
    obtain ⟨x1, r25, rfl, h26⟩ := bR h24
    obtain ⟨r28, r27, rfl, h28⟩ := bB h26
    obtain ⟨rfl, h29⟩ := ptrK_inv h28
    obtain ⟨r31, r30, rfl, h31⟩ := bB h29
    obtain ⟨x3, rfl, h32⟩ := asIntK_inv h31
    obtain ⟨r34, r33, rfl, h34⟩ := bB h32
    obtain ⟨x4, rfl, h35⟩ := asIntK_inv h34
    obtain ⟨rfl, h36⟩ := bNilK_inv h35
    have h := h36
    refine ⟨_, _, rfl, rfl, ?_⟩
    rw [← J45_7_eq aa ab ac ad ae af x1 x3 x4 K]
    exact h)
theorem S45_3_eq (aa : Nat) (ab : Bool) (ac : Bool) (ad : Int) (ae : Int) (af : Int) (x1 : List PV) (x3 : Int) (x4 : Int) (el : List PV) (xs : List (List PV)) (G : Ex → St → Prop) : evRange C45r3 [12] (codeOf Try.f45 [1, 1, 0, 0]) (codeOf Try.f45 [1, 1, 0, 1]) (skU 4 ((.ptr 2 24 0 []) :: (.ptr 3 3 0 []) :: skU 1 ((.ptr 4 3 0 []) :: skU 21 []))) ((fun (el : List PV) => [(.list 5 el)]) el :: xs) (hp [(.box true 64 (.agg [(.sl 1 111 0 aa), (.bool ab), (.bool ac), (.int .i64 ad), (.int .i64 ae), (.int .i64 af)])), (.row true 111 x1), (.box true 24 (.ptr 0 64 0 [])), (.box true 3 (.int .i64 x3)), (.box true 3 (.int .i64 x4))]) 5 G = S45_3 aa ab ac ad ae af x1 x3 x4 el (fun x1 x3 x4 => evRange C45r3 [12] (codeOf Try.f45 [1, 1, 0, 0]) (codeOf Try.f45 [1, 1, 0, 1]) (skU 4 ((.ptr 2 24 0 []) :: (.ptr 3 3 0 []) :: skU 1 ((.ptr 4 3 0 []) :: skU 21 []))) xs (hp [(.box true 64 (.agg [(.sl 1 111 0 aa), (.bool ab), (.bool ac), (.int .i64 ad), (.int .i64 ae), (.int .i64 af)])), (.row true 111 x1), (.box true 24 (.ptr 0 64 0 [])), (.box true 3 (.int .i64 x3)), (.box true 3 (.int .i64 x4))]) 5 G) (fun z6 z7 z8 => G .normal (mkSt (skU 4 ((.ptr 2 24 0 []) :: (.ptr 3 3 0 []) :: skU 1 ((.ptr 4 3 0 []) :: skU 21 []))) [(.box true 64 (.agg [(.sl 1 111 0 aa), (.bool ab), (.bool ac), (.int .i64 ad), (.int .i64 ae), (.int .i64 af)])), (.row true 111 z6), (.box true 24 (.ptr 0 64 0 [])), (.box true 3 (.int .i64 z7)), (.box true 3 (.int .i64 z8))])) (fun z6 z7 z8 => G .ret (mkSt (skU 4 ((.ptr 2 24 0 []) :: (.ptr 3 3 0 []) :: skU 1 ((.ptr 4 3 0 []) :: skU 21 []))) [(.box true 64 (.agg [(.sl 1 111 0 aa), (.bool ab), (.bool ac), (.int .i64 ad), (.int .i64 ae), (.int .i64 af)])), (.row true 111 z6), (.box true 24 (.ptr 0 64 0 [])), (.box true 3 (.int .i64 z7)), (.box true 3 (.int .i64 z8))])) := by kernel_rfl
theorem G45_3_eq (aa : Nat) (ab : Bool) (ac : Bool) (ad : Int) (ae : Int) (af : Int) (G : Ex → St → Prop) : ∀ (r : List (List PV)) (x1 : List PV) (x3 : Int) (x4 : Int), evRange C45r3 [12] (codeOf Try.f45 [1, 1, 0, 0]) (codeOf Try.f45 [1, 1, 0, 1]) (skU 4 ((.ptr 2 24 0 []) :: (.ptr 3 3 0 []) :: skU 1 ((.ptr 4 3 0 []) :: skU 21 []))) (List.map (fun (el : List PV) => [(.list 5 el)]) r) (hp [(.box true 64 (.agg [(.sl 1 111 0 aa), (.bool ab), (.bool ac), (.int .i64 ad), (.int .i64 ae), (.int .i64 af)])), (.row true 111 x1), (.box true 24 (.ptr 0 64 0 [])), (.box true 3 (.int .i64 x3)), (.box true 3 (.int .i64 x4))]) 5 G = G45_3 aa ab ac ad ae af (fun z6 z7 z8 => G .normal (mkSt (skU 4 ((.ptr 2 24 0 []) :: (.ptr 3 3 0 []) :: skU 1 ((.ptr 4 3 0 []) :: skU 21 []))) [(.box true 64 (.agg [(.sl 1 111 0 aa), (.bool ab), (.bool ac), (.int .i64 ad), (.int .i64 ae), (.int .i64 af)])), (.row true 111 z6), (.box true 24 (.ptr 0 64 0 [])), (.box true 3 (.int .i64 z7)), (.box true 3 (.int .i64 z8))])) (fun z6 z7 z8 => G .ret (mkSt (skU 4 ((.ptr 2 24 0 []) :: (.ptr 3 3 0 []) :: skU 1 ((.ptr 4 3 0 []) :: skU 21 []))) [(.box true 64 (.agg [(.sl 1 111 0 aa), (.bool ab), (.bool ac), (.int .i64 ad), (.int .i64 ae), (.int .i64 af)])), (.row true 111 z6), (.box true 24 (.ptr 0 64 0 [])), (.box true 3 (.int .i64 z7)), (.box true 3 (.int .i64 z8))])) r x1 x3 x4
  | [], _, _, _ => rfl
  | el :: r, x1, x3, x4 => (S45_3_eq aa ab ac ad ae af x1 x3 x4 el (List.map (fun (el : List PV) => [(.list 5 el)]) r) G).trans (congrArg (fun q => S45_3 aa ab ac ad ae af x1 x3 x4 el q (fun z6 z7 z8 => G .normal (mkSt (skU 4 ((.ptr 2 24 0 []) :: (.ptr 3 3 0 []) :: skU 1 ((.ptr 4 3 0 []) :: skU 21 []))) [(.box true 64 (.agg [(.sl 1 111 0 aa), (.bool ab), (.bool ac), (.int .i64 ad), (.int .i64 ae), (.int .i64 af)])), (.row true 111 z6), (.box true 24 (.ptr 0 64 0 [])), (.box true 3 (.int .i64 z7)), (.box true 3 (.int .i64 z8))])) (fun z6 z7 z8 => G .ret (mkSt (skU 4 ((.ptr 2 24 0 []) :: (.ptr 3 3 0 []) :: skU 1 ((.ptr 4 3 0 []) :: skU 21 []))) [(.box true 64 (.agg [(.sl 1 111 0 aa), (.bool ab), (.bool ac), (.int .i64 ad), (.int .i64 ae), (.int .i64 af)])), (.row true 111 z6), (.box true 24 (.ptr 0 64 0 [])), (.box true 3 (.int .i64 z7)), (.box true 3 (.int .i64 z8))]))) (funext fun x1 => funext fun x3 => funext fun x4 => G45_3_eq aa ab ac ad ae af G r x1 x3 x4))
theorem G45_3_eqK (aa : Nat) (ab : Bool) (ac : Bool) (ad : Int) (ae : Int) (af : Int) (K : Ex → List PV → List Blk → Prop) (r : List (List PV)) (x1 : List PV) (x3 : Int) (x4 : Int) : G45_3 aa ab ac ad ae af (fun z6 z7 z8 => K .normal (skU 4 ((.ptr 2 24 0 []) :: (.ptr 3 3 0 []) :: skU 1 ((.ptr 4 3 0 []) :: skU 21 []))) [(.box true 64 (.agg [(.sl 1 111 0 aa), (.bool ab), (.bool ac), (.int .i64 ad), (.int .i64 ae), (.int .i64 af)])), (.row true 111 z6), (.box true 24 (.ptr 0 64 0 [])), (.box true 3 (.int .i64 z7)), (.box true 3 (.int .i64 z8))]) (fun z6 z7 z8 => K .ret (skU 4 ((.ptr 2 24 0 []) :: (.ptr 3 3 0 []) :: skU 1 ((.ptr 4 3 0 []) :: skU 21 []))) [(.box true 64 (.agg [(.sl 1 111 0 aa), (.bool ab), (.bool ac), (.int .i64 ad), (.int .i64 ae), (.int .i64 af)])), (.row true 111 z6), (.box true 24 (.ptr 0 64 0 [])), (.box true 3 (.int .i64 z7)), (.box true 3 (.int .i64 z8))]) r x1 x3 x4 = evRange C45r3 [12] (codeOf Try.f45 [1, 1, 0, 0]) (codeOf Try.f45 [1, 1, 0, 1]) (skU 4 ((.ptr 2 24 0 []) :: (.ptr 3 3 0 []) :: skU 1 ((.ptr 4 3 0 []) :: skU 21 []))) (List.map (fun (el : List PV) => [(.list 5 el)]) r) (hp [(.box true 64 (.agg [(.sl 1 111 0 aa), (.bool ab), (.bool ac), (.int .i64 ad), (.int .i64 ae), (.int .i64 af)])), (.row true 111 x1), (.box true 24 (.ptr 0 64 0 [])), (.box true 3 (.int .i64 x3)), (.box true 3 (.int .i64 x4))]) 5 (onSt K) := ((G45_3_eq aa ab ac ad ae af (onSt K) r x1 x3 x4).trans (by kernel_rfl)).symm
theorem H45_3_ok : RangeOk C45 ((#[12] : Array Nat), (codeOf Try.f45 [1, 1, 0, 0]), (codeOf Try.f45 [1, 1, 0, 1])) := RangeOk.to (pins := [2, 3, 4]) (l := Q45_3) (by kernel_rfl) (fun xs t bs K h0 => by
    unfold Q45_3 at h0
    obtain ⟨r1, rfl, h1⟩ := skipU_inv h0
    obtain ⟨r3, rfl, h3⟩ := pI h1
    obtain ⟨r5, rfl, h5⟩ := pI h3
    obtain ⟨r6, rfl, h6⟩ := skipU_inv h5
    obtain ⟨r8, rfl, h8⟩ := pI h6
    obtain ⟨r9, rfl, h9⟩ := skipU_inv h8
    obtain ⟨rfl, h10⟩ := nilK_inv h9
    obtain ⟨r13, r11, rfl, h13⟩ := bA h10
    obtain ⟨aa, r15, rfl, h15⟩ := zI h13
    obtain ⟨ab, r17, rfl, h17⟩ := bI h15
    obtain ⟨ac, r19, rfl, h19⟩ := bI h17
    obtain ⟨ad, r21, rfl, h21⟩ := iI h19
    obtain ⟨ae, r23, rfl, h23⟩ := iI h21
    obtain ⟨af, r25, rfl, h25⟩ := iI h23
    obtain ⟨rfl, h26⟩ := nilK_inv h25
    obtain ⟨x1, r27, rfl, h28⟩ := bR h26
    obtain ⟨r30, r29, rfl, h30⟩ := bB h28
    obtain ⟨rfl, h31⟩ := ptrK_inv h30
    obtain ⟨r33, r32, rfl, h33⟩ := bB h31
    obtain ⟨x3, rfl, h34⟩ := asIntK_inv h33
    obtain ⟨r36, r35, rfl, h36⟩ := bB h34
    obtain ⟨x4, rfl, h37⟩ := asIntK_inv h36
    obtain ⟨rfl, h38⟩ := bNilK_inv h37
    have h := h38
    obtain ⟨r, rfl, h⟩ := h
    refine ⟨_, _, _, rfl, rfl, rfl, ?_⟩
    show evRange C45r3 [12] (codeOf Try.f45 [1, 1, 0, 0]) (codeOf Try.f45 [1, 1, 0, 1]) (skU 4 ((.ptr 2 24 0 []) :: (.ptr 3 3 0 []) :: skU 1 ((.ptr 4 3 0 []) :: skU 21 []))) (List.map (fun (el : List PV) => [(.list 5 el)]) r) (hp [(.box true 64 (.agg [(.sl 1 111 0 aa), (.bool ab), (.bool ac), (.int .i64 ad), (.int .i64 ae), (.int .i64 af)])), (.row true 111 x1), (.box true 24 (.ptr 0 64 0 [])), (.box true 3 (.int .i64 x3)), (.box true 3 (.int .i64 x4))]) 5 (onSt K)
    rw [← G45_3_eqK aa ab ac ad ae af K r x1 x3 x4]
    exact h) (LoopsOk.code (C := C45r3) (c := (codeOf Try.f45 [1, 1, 0, 0])) (l := []) (r := []) (g := []) (by kernel_rfl) (by kernel_rfl) (by kernel_rfl) trivial trivial trivial) (LoopsOk.code (C := C45r3) (c := (codeOf Try.f45 [1, 1, 0, 1])) (l := []) (r := [codeOf Try.f45 [1, 1, 0, 1, 0, 1], codeOf Try.f45 [1, 1, 0, 1, 0, 0, 1], codeOf Try.f45 [1, 1, 0, 1, 0, 1, 1], codeOf Try.f45 [1, 1, 0, 1, 0, 1, 1, 1], codeOf Try.f45 [1, 1, 0, 1, 0, 1, 1, 1, 1], codeOf Try.f45 [1, 1, 0, 1, 0, 1, 1, 1, 1, 1]]) (g := []) (by kernel_rfl) (by kernel_rfl) (by kernel_rfl) trivial ⟨(RestOk.none (by kernel_rfl)), ⟨(RestOk.none (by kernel_rfl)), ⟨(RestOk.none (by kernel_rfl)), ⟨(RestOk.none (by kernel_rfl)), ⟨Q45_7_ok, ⟨(RestOk.none (by kernel_rfl)), trivial⟩⟩⟩⟩⟩⟩ trivial)
theorem B45_eq (uat : Int) (b : List PV) (most : Int) (dn : Nat) (off : Bool) (cut : Bool) (whole : Int) (kept : Int) (writes : Int) (secs : List PV) (K : List Blk → List PV → Prop) : evF C45 Try.f45 [(.box true 64 (.agg [(.sl 1 111 0 dn), (.bool off), (.bool cut), (.int .i64 whole), (.int .i64 kept), (.int .i64 writes)])), (.row true 111 secs)] [(.ptr 0 64 0 []), (.int .i64 uat), (.list 5 b), (.int .i64 most)] K = (([(.box true 64 (.agg [(.sl 1 111 0 dn), (.bool off), (.bool cut), (.int .i64 whole), (.int .i64 kept), (.int .i64 writes)])), (.row true 111 secs)] : List Blk).length = 2 ∧ B45 uat b most dn off cut whole kept writes secs (fun z0 z1 z2 z3 z4 z5 z6 => K [(.box true 64 (.agg [(.sl 1 111 0 z0), (.bool z1), (.bool z2), (.int .i64 z3), (.int .i64 z4), (.int .i64 z5)])), (.row true 111 z6)] [])) := by kernel_rfl
theorem W45_of (hT : AllSound Try.prog pvT pvG T45) : Sound Try.prog pvT pvG 45 W45 := Sound.weak (evF_sound (C := C45) (Base.of pvT_fits pvT_sized pvT_eq hT pvMixed pvIt_ok) Try.func45 (LoopsOk.of (C := C45) (fn := Try.f45) (l := []) (r := [codeOf Try.f45 [1], codeOf Try.f45 [1, 1]]) (g := [((#[12] : Array Nat), codeOf Try.f45 [1, 1, 0, 0], codeOf Try.f45 [1, 1, 0, 1])]) (by kernel_rfl) (by kernel_rfl) (by kernel_rfl) trivial ⟨(RestOk.none (by kernel_rfl)), ⟨(RestOk.none (by kernel_rfl)), trivial⟩⟩ ⟨H45_3_ok, trivial⟩) (evF_to (C := C45) (fun bs t K h0 => by
    unfold P45 at h0
    obtain ⟨r2, rfl, h2⟩ := pI h0
    obtain ⟨uat, r4, rfl, h4⟩ := iI h2
    obtain ⟨b, r6, rfl, h6⟩ := lI h4
    obtain ⟨most, r8, rfl, h8⟩ := iI h6
    obtain ⟨rfl, h9⟩ := nilK_inv h8
    obtain ⟨r12, r10, rfl, h12⟩ := bA h9
    obtain ⟨dn, r14, rfl, h14⟩ := zI h12
    obtain ⟨off, r16, rfl, h16⟩ := bI h14
    obtain ⟨cut, r18, rfl, h18⟩ := bI h16
    obtain ⟨whole, r20, rfl, h20⟩ := iI h18
    obtain ⟨kept, r22, rfl, h22⟩ := iI h20
    obtain ⟨writes, r24, rfl, h24⟩ := iI h22
    obtain ⟨rfl, h25⟩ := nilK_inv h24
    obtain ⟨secs, r26, rfl, h27⟩ := bR h25
    obtain ⟨rfl, h28⟩ := bNilK_inv h27
    have h := h28
    refine ⟨_, _, rfl, rfl, ?_⟩
    rw [B45_eq uat b most dn off cut whole kept writes secs K]
    exact ⟨rfl, h⟩))) _
end Pv

namespace Pv
open Go Go.Proofs

theorem S49_7_eq (x5 : Int) (t11 : List PV) (t12 : Int) (t13 : Int) (t21 : Int) (G : Ex → St → Prop) : evC C49 (codeOf Try.f49 [1, 1, 0, 1, 0, 0, 1, 1, 0, 0, 1, 1, 1, 0, 0]) (mkSt (skU 5 ((.int .u32 x5) :: skU 5 ((.list 5 t11) :: (.int .i64 t12) :: (.int .i64 t13) :: skU 7 ((.int .i64 t21) :: skU 13 [])))) []) G = S49_7 t11 t12 t13 x5 t21 (fun x5 t21 => G .normal (mkSt (skU 5 ((.int .u32 x5) :: skU 5 ((.list 5 t11) :: (.int .i64 t12) :: (.int .i64 t13) :: skU 7 ((.int .i64 t21) :: skU 13 [])))) [])) (fun z0 z4 => G (.exit 2) (mkSt (skU 5 ((.int .u32 z0) :: skU 5 ((.list 5 t11) :: (.int .i64 t12) :: (.int .i64 t13) :: skU 7 ((.int .i64 z4) :: skU 13 [])))) [])) := by kernel_rfl
theorem R49_7_eq (t11 : List PV) (t12 : Int) (t13 : Int) (G : Ex → St → Prop) : ∀ (n : Nat) (x5 : Int) (t21 : Int), evLoop C49 (codeOf Try.f49 [1, 1, 0, 1, 0, 0, 1, 1, 0, 0, 1, 1, 1, 0, 0]) n (mkSt (skU 5 ((.int .u32 x5) :: skU 5 ((.list 5 t11) :: (.int .i64 t12) :: (.int .i64 t13) :: skU 7 ((.int .i64 t21) :: skU 13 [])))) []) G = R49_7 t11 t12 t13 (fun z0 z4 => G (.exit 2) (mkSt (skU 5 ((.int .u32 z0) :: skU 5 ((.list 5 t11) :: (.int .i64 t12) :: (.int .i64 t13) :: skU 7 ((.int .i64 z4) :: skU 13 [])))) [])) n x5 t21
  | 0, _, _ => rfl
  | n + 1, x5, t21 => (S49_7_eq x5 t11 t12 t13 t21 (fun e s => match e with | .normal => evLoop C49 (codeOf Try.f49 [1, 1, 0, 1, 0, 0, 1, 1, 0, 0, 1, 1, 1, 0, 0]) n s G | .exit id => G (.exit id) s | .ret => G .ret s)).trans (congrArg (fun q => S49_7 t11 t12 t13 x5 t21 q (fun z0 z4 => G (.exit 2) (mkSt (skU 5 ((.int .u32 z0) :: skU 5 ((.list 5 t11) :: (.int .i64 t12) :: (.int .i64 t13) :: skU 7 ((.int .i64 z4) :: skU 13 [])))) []))) (funext fun x5 => funext fun t21 => R49_7_eq t11 t12 t13 G n x5 t21))
theorem R49_7_eqK (t11 : List PV) (t12 : Int) (t13 : Int) (K : Ex → List PV → List Blk → Prop) (n : Nat) (x5 : Int) (t21 : Int) : R49_7 t11 t12 t13 (fun z0 z4 => K (.exit 2) (skU 5 ((.int .u32 z0) :: skU 5 ((.list 5 t11) :: (.int .i64 t12) :: (.int .i64 t13) :: skU 7 ((.int .i64 z4) :: skU 13 [])))) []) n x5 t21 = evLoop C49 (codeOf Try.f49 [1, 1, 0, 1, 0, 0, 1, 1, 0, 0, 1, 1, 1, 0, 0]) n (mkSt (skU 5 ((.int .u32 x5) :: skU 5 ((.list 5 t11) :: (.int .i64 t12) :: (.int .i64 t13) :: skU 7 ((.int .i64 t21) :: skU 13 [])))) []) (onSt K) := ((R49_7_eq t11 t12 t13 (onSt K) n x5 t21).trans (by kernel_rfl)).symm
theorem Q49_7_ok : LoopOk C49 (codeOf Try.f49 [1, 1, 0, 1, 0, 0, 1, 1, 0, 0, 1, 1, 1, 0, 0]) := LoopOk.of (l := Q49_7) (by kernel_rfl) (fun t bs K h0 => by
    unfold Q49_7 at h0
    obtain ⟨r1, rfl, h1⟩ := skipU_inv h0
    obtain ⟨x5, r3, rfl, h3⟩ := iI h1
    obtain ⟨r4, rfl, h4⟩ := skipU_inv h3
    obtain ⟨t11, r6, rfl, h6⟩ := lI h4
    obtain ⟨t12, r8, rfl, h8⟩ := iI h6
    obtain ⟨t13, r10, rfl, h10⟩ := iI h8
    obtain ⟨r11, rfl, h11⟩ := skipU_inv h10
    obtain ⟨t21, r13, rfl, h13⟩ := iI h11
    obtain ⟨r14, rfl, h14⟩ := skipU_inv h13
    obtain ⟨rfl, h15⟩ := nilK_inv h14
    obtain ⟨rfl, h16⟩ := bNilK_inv h15
    have h := h16
    obtain ⟨n, hn⟩ := h
    refine ⟨n, ?_⟩
    rw [← R49_7_eqK t11 t12 t13 K n x5 t21]
    exact hn)
theorem S49_3_eq (x5 : Int) (t11 : List PV) (t12 : Int) (t13 : Int) (G : Ex → St → Prop) : evC C49 (codeOf Try.f49 [1, 1, 0, 1, 0, 0]) (mkSt (skU 5 ((.int .u32 x5) :: skU 5 ((.list 5 t11) :: (.int .i64 t12) :: (.int .i64 t13) :: skU 21 []))) []) G = S49_3 t11 t12 x5 t13 (fun x5 t13 => G .normal (mkSt (skU 5 ((.int .u32 x5) :: skU 5 ((.list 5 t11) :: (.int .i64 t12) :: (.int .i64 t13) :: skU 21 []))) [])) (fun z0 z3 => G (.exit 0) (mkSt (skU 5 ((.int .u32 z0) :: skU 5 ((.list 5 t11) :: (.int .i64 t12) :: (.int .i64 z3) :: skU 21 []))) [])) := by kernel_rfl
theorem R49_3_eq (t11 : List PV) (t12 : Int) (G : Ex → St → Prop) : ∀ (n : Nat) (x5 : Int) (t13 : Int), evLoop C49 (codeOf Try.f49 [1, 1, 0, 1, 0, 0]) n (mkSt (skU 5 ((.int .u32 x5) :: skU 5 ((.list 5 t11) :: (.int .i64 t12) :: (.int .i64 t13) :: skU 21 []))) []) G = R49_3 t11 t12 (fun z0 z3 => G (.exit 0) (mkSt (skU 5 ((.int .u32 z0) :: skU 5 ((.list 5 t11) :: (.int .i64 t12) :: (.int .i64 z3) :: skU 21 []))) [])) n x5 t13
  | 0, _, _ => rfl
  | n + 1, x5, t13 => (S49_3_eq x5 t11 t12 t13 (fun e s => match e with | .normal => evLoop C49 (codeOf Try.f49 [1, 1, 0, 1, 0, 0]) n s G | .exit id => G (.exit id) s | .ret => G .ret s)).trans (congrArg (fun q => S49_3 t11 t12 x5 t13 q (fun z0 z3 => G (.exit 0) (mkSt (skU 5 ((.int .u32 z0) :: skU 5 ((.list 5 t11) :: (.int .i64 t12) :: (.int .i64 z3) :: skU 21 []))) []))) (funext fun x5 => funext fun t13 => R49_3_eq t11 t12 G n x5 t13))
theorem R49_3_eqK (t11 : List PV) (t12 : Int) (K : Ex → List PV → List Blk → Prop) (n : Nat) (x5 : Int) (t13 : Int) : R49_3 t11 t12 (fun z0 z3 => K (.exit 0) (skU 5 ((.int .u32 z0) :: skU 5 ((.list 5 t11) :: (.int .i64 t12) :: (.int .i64 z3) :: skU 21 []))) []) n x5 t13 = evLoop C49 (codeOf Try.f49 [1, 1, 0, 1, 0, 0]) n (mkSt (skU 5 ((.int .u32 x5) :: skU 5 ((.list 5 t11) :: (.int .i64 t12) :: (.int .i64 t13) :: skU 21 []))) []) (onSt K) := ((R49_3_eq t11 t12 (onSt K) n x5 t13).trans (by kernel_rfl)).symm
theorem Q49_3_ok : LoopOk C49 (codeOf Try.f49 [1, 1, 0, 1, 0, 0]) := LoopOk.of (l := Q49_3) (by kernel_rfl) (fun t bs K h0 => by
    unfold Q49_3 at h0
    obtain ⟨r1, rfl, h1⟩ := skipU_inv h0
    obtain ⟨x5, r3, rfl, h3⟩ := iI h1
    obtain ⟨r4, rfl, h4⟩ := skipU_inv h3
    obtain ⟨t11, r6, rfl, h6⟩ := lI h4
    obtain ⟨t12, r8, rfl, h8⟩ := iI h6
    obtain ⟨t13, r10, rfl, h10⟩ := iI h8
    obtain ⟨r11, rfl, h11⟩ := skipU_inv h10
    obtain ⟨rfl, h12⟩ := nilK_inv h11
    obtain ⟨rfl, h13⟩ := bNilK_inv h12
    have h := h13
    obtain ⟨n, hn⟩ := h
    refine ⟨n, ?_⟩
    rw [← R49_3_eqK t11 t12 K n x5 t13]
    exact hn)
theorem B49_eq (sum0 : Int) (b1 : List PV) (K : List Blk → List PV → Prop) : evF C49 Try.f49 [] [(.int .u32 sum0), (.list 5 b1)] K = (([] : List Blk).length = 0 ∧ B49 sum0 b1 (fun z0 => K [] [(.int .u32 z0)])) := by kernel_rfl
theorem W49_of (hT : AllSound Try.prog pvT pvG T49) : Sound Try.prog pvT pvG 49 W49 := Sound.weak (evF_sound (C := C49) (Base.of pvT_fits pvT_sized pvT_eq hT pvMixed pvIt_ok) Try.func49 (LoopsOk.of (C := C49) (fn := Try.f49) (l := [codeOf Try.f49 [1, 1, 0, 1, 0, 0], codeOf Try.f49 [1, 1, 0, 1, 0, 0, 1, 1, 0, 0, 1, 1, 1, 0, 0]]) (g := []) (by kernel_rfl) rfl (by kernel_rfl) ⟨Q49_3_ok, ⟨Q49_7_ok, trivial⟩⟩ (RestOk.all rfl _) trivial) (evF_to (C := C49) (fun bs t K h0 => by
    unfold P49 at h0
    obtain ⟨sum0, r2, rfl, h2⟩ := iI h0
    obtain ⟨b1, r4, rfl, h4⟩ := lI h2
    obtain ⟨rfl, h5⟩ := nilK_inv h4
    obtain ⟨rfl, h6⟩ := bNilK_inv h5
    have h := h6
    refine ⟨_, _, rfl, rfl, ?_⟩
    rw [B49_eq sum0 b1 K]
    exact ⟨rfl, h⟩))) _
end Pv

namespace Pv
open Go Go.Proofs

theorem J21_10_eq (t1 : Int) (t2 : List PV) (t7 : Int) (aa : Nat) (ab : Bool) (ac : Bool) (ad : Int) (ae : Int) (af : Int) (x1 : List PV) (K : Ex → List PV → List Blk → Prop) : J21_10 t1 t2 t7 aa ab ac ad ae af x1 (fun z1 z2 z3 z4 z5 z6 z7 => K .ret (skU 6 ((.int .i64 0) :: skU 64 [])) [(.box true 64 (.agg [(.sl 1 111 0 z1), (.bool z2), (.bool z3), (.int .i64 z4), (.int .i64 z5), (.int .i64 z6)])), (.row true 111 z7)]) = evC C21 (codeOf Try.f21 [1, 1, 1, 1, 1]) (mkSt ((.ptr 0 64 0 []) :: (.int .i64 t1) :: (.list 5 t2) :: skU 4 ((.int .i64 t7) :: skU 63 [])) [(.box true 64 (.agg [(.sl 1 111 0 aa), (.bool ab), (.bool ac), (.int .i64 ad), (.int .i64 ae), (.int .i64 af)])), (.row true 111 x1)]) (onSt K) := by kernel_rfl
theorem Q21_10_ok : RestOk C21 (codeOf Try.f21 [1, 1, 1, 1, 1]) := RestOk.to (l := Q21_10) (by kernel_rfl) (by
    intro t bs K h0
    unfold Q21_10 at h0
    obtain ⟨r2, rfl, h2⟩ := pI h0
    obtain ⟨t1, r4, rfl, h4⟩ := iI h2
    obtain ⟨t2, r6, rfl, h6⟩ := lI h4
    obtain ⟨r7, rfl, h7⟩ := skipU_inv h6
    obtain ⟨t7, r9, rfl, h9⟩ := iI h7
    obtain ⟨r10, rfl, h10⟩ := skipU_inv h9
    obtain ⟨rfl, h11⟩ := nilK_inv h10
    obtain ⟨r14, r12, rfl, h14⟩ := bA h11
    obtain ⟨aa, r16, rfl, h16⟩ := zI h14
    obtain ⟨ab, r18, rfl, h18⟩ := bI h16
    obtain ⟨ac, r20, rfl, h20⟩ := bI h18
    obtain ⟨ad, r22, rfl, h22⟩ := iI h20
    obtain ⟨ae, r24, rfl, h24⟩ := iI h22
    obtain ⟨af, r26, rfl, h26⟩ := iI h24
    obtain ⟨rfl, h27⟩ := nilK_inv h26
    obtain ⟨x1, r28, rfl, h29⟩ := bR h27
    obtain ⟨rfl, h30⟩ := bNilK_inv h29
    have h := h30
    refine ⟨_, _, rfl, rfl, ?_⟩
    rw [← J21_10_eq t1 t2 t7 aa ab ac ad ae af x1 K]
    exact h)
theorem B21_eq (uat : Int) (b : List PV) (dn : Nat) (off : Bool) (cut : Bool) (whole : Int) (kept : Int) (writes : Int) (secs : List PV) (K : List Blk → List PV → Prop) : evF C21 Try.f21 [(.box true 64 (.agg [(.sl 1 111 0 dn), (.bool off), (.bool cut), (.int .i64 whole), (.int .i64 kept), (.int .i64 writes)])), (.row true 111 secs)] [(.ptr 0 64 0 []), (.int .i64 uat), (.list 5 b)] K = (([(.box true 64 (.agg [(.sl 1 111 0 dn), (.bool off), (.bool cut), (.int .i64 whole), (.int .i64 kept), (.int .i64 writes)])), (.row true 111 secs)] : List Blk).length = 2 ∧ B21 uat b dn off cut whole kept writes secs (fun z0 z1 z2 z3 z4 z5 z6 z7 => K [(.box true 64 (.agg [(.sl 1 111 0 z1), (.bool z2), (.bool z3), (.int .i64 z4), (.int .i64 z5), (.int .i64 z6)])), (.row true 111 z7)] [(.int .i64 z0)])) := by kernel_rfl
theorem W21_of (hT : AllSound Try.prog pvT pvG T21) : Sound Try.prog pvT pvG 21 W21 := Sound.weak (evF_sound (C := C21) (Base.of pvT_fits pvT_sized pvT_eq hT pvMixed pvIt_ok) Try.func21 (LoopsOk.of (C := C21) (fn := Try.f21) (l := []) (r := [codeOf Try.f21 [1], codeOf Try.f21 [1, 1], codeOf Try.f21 [1, 1, 1], codeOf Try.f21 [1, 1, 0, 1], codeOf Try.f21 [1, 1, 0, 1, 1], codeOf Try.f21 [1, 1, 0, 1, 1, 0, 1], codeOf Try.f21 [1, 1, 1, 1], codeOf Try.f21 [1, 1, 1, 1, 1], codeOf Try.f21 [1, 1, 1, 1, 0, 1], codeOf Try.f21 [1, 1, 1, 1, 0, 1, 0, 1], codeOf Try.f21 [1, 1, 1, 1, 0, 1, 0, 1, 1], codeOf Try.f21 [1, 1, 1, 1, 0, 1, 0, 1, 1, 1], codeOf Try.f21 [1, 1, 1, 1, 1, 1], codeOf Try.f21 [1, 1, 1, 1, 1, 1, 1], codeOf Try.f21 [1, 1, 1, 1, 1, 1, 0, 1], codeOf Try.f21 [1, 1, 1, 1, 1, 1, 1, 1]]) (g := []) (by kernel_rfl) (by kernel_rfl) (by kernel_rfl) trivial ⟨(RestOk.none (by kernel_rfl)), ⟨(RestOk.none (by kernel_rfl)), ⟨(RestOk.none (by kernel_rfl)), ⟨(RestOk.none (by kernel_rfl)), ⟨(RestOk.none (by kernel_rfl)), ⟨(RestOk.none (by kernel_rfl)), ⟨(RestOk.none (by kernel_rfl)), ⟨Q21_10_ok, ⟨(RestOk.none (by kernel_rfl)), ⟨(RestOk.none (by kernel_rfl)), ⟨(RestOk.none (by kernel_rfl)), ⟨(RestOk.none (by kernel_rfl)), ⟨(RestOk.none (by kernel_rfl)), ⟨(RestOk.none (by kernel_rfl)), ⟨(RestOk.none (by kernel_rfl)), ⟨(RestOk.none (by kernel_rfl)), trivial⟩⟩⟩⟩⟩⟩⟩⟩⟩⟩⟩⟩⟩⟩⟩⟩ trivial) (evF_to (C := C21) (fun bs t K h0 => by
    unfold P21 at h0
    obtain ⟨r2, rfl, h2⟩ := pI h0
    obtain ⟨uat, r4, rfl, h4⟩ := iI h2
    obtain ⟨b, r6, rfl, h6⟩ := lI h4
    obtain ⟨rfl, h7⟩ := nilK_inv h6
    obtain ⟨r10, r8, rfl, h10⟩ := bA h7
    obtain ⟨dn, r12, rfl, h12⟩ := zI h10
    obtain ⟨off, r14, rfl, h14⟩ := bI h12
    obtain ⟨cut, r16, rfl, h16⟩ := bI h14
    obtain ⟨whole, r18, rfl, h18⟩ := iI h16
    obtain ⟨kept, r20, rfl, h20⟩ := iI h18
    obtain ⟨writes, r22, rfl, h22⟩ := iI h20
    obtain ⟨rfl, h23⟩ := nilK_inv h22
    obtain ⟨secs, r24, rfl, h25⟩ := bR h23
    obtain ⟨rfl, h26⟩ := bNilK_inv h25
    have h := h26
    refine ⟨_, _, rfl, rfl, ?_⟩
    rw [B21_eq uat b dn off cut whole kept writes secs K]
    exact ⟨rfl, h⟩))) _
end Pv

namespace Pv
open Go Go.Proofs

theorem J5_4_eq (ae : Nat) (af : Bool) (ag : Bool) (ah : Int) (ai : Int) (aj : Int) (aa : Int) (ab : Int) (ac : Int) (ad : Int) (ak : Int) (al : Int) (am : Bool) (x2 : List PV) (x3 : List PV) (K : Ex → List PV → List Blk → Prop) : J5_4 ae af ag ah ai aj aa ab ac ad ak al am x2 x3 (fun z0 => K .ret ((.bool z0) :: skU 51 []) []) = evC C5 (codeOf Try.f5 [1, 1, 1]) (mkSt (skU 1 ((.ptr 0 64 0 []) :: (.ptr 1 57 0 []) :: skU 49 [])) [(.box true 64 (.agg [(.sl 2 111 0 ae), (.bool af), (.bool ag), (.int .i64 ah), (.int .i64 ai), (.int .i64 aj)])), (.box true 57 (.agg [(.ptr 0 64 0 []), (.mapr 3), (.agg [(.int .u64 aa), (.int .i64 ab), (.int .i64 ac), (.int .u32 ad)]), (.int .i64 ak), (.int .u64 al), (.bool am)])), (.row true 111 x2), (.map false 9 77 x3)]) (onSt K) := by kernel_rfl
theorem Q5_4_ok : RestOk C5 (codeOf Try.f5 [1, 1, 1]) := RestOk.to (l := Q5_4) (by kernel_rfl) (by
    intro t bs K h0
    unfold Q5_4 at h0
    obtain ⟨r1, rfl, h1⟩ := skipU_inv h0
    obtain ⟨r3, rfl, h3⟩ := pI h1
    obtain ⟨r5, rfl, h5⟩ := pI h3
    obtain ⟨r6, rfl, h6⟩ := skipU_inv h5
    obtain ⟨rfl, h7⟩ := nilK_inv h6
    obtain ⟨r10, r8, rfl, h10⟩ := bA h7
    obtain ⟨ae, r12, rfl, h12⟩ := zI h10
    obtain ⟨af, r14, rfl, h14⟩ := bI h12
    obtain ⟨ag, r16, rfl, h16⟩ := bI h14
    obtain ⟨ah, r18, rfl, h18⟩ := iI h16
    obtain ⟨ai, r20, rfl, h20⟩ := iI h18
    obtain ⟨aj, r22, rfl, h22⟩ := iI h20
    obtain ⟨rfl, h23⟩ := nilK_inv h22
    obtain ⟨r26, r24, rfl, h26⟩ := bA h23
    obtain ⟨r28, rfl, h28⟩ := pI h26
    obtain ⟨r30, rfl, h30⟩ := mI h28
    obtain ⟨r33, r32, rfl, h32⟩ := aI h30
    obtain ⟨aa, r35, rfl, h34⟩ := iI h32
    obtain ⟨ab, r37, rfl, h36⟩ := iI h34
    obtain ⟨ac, r39, rfl, h38⟩ := iI h36
    obtain ⟨ad, r41, rfl, h40⟩ := iI h38
    obtain ⟨rfl, h41⟩ := nilK_inv h40
    obtain ⟨ak, r43, rfl, h43⟩ := iI h41
    obtain ⟨al, r45, rfl, h45⟩ := iI h43
    obtain ⟨am, r47, rfl, h47⟩ := bI h45
    obtain ⟨rfl, h48⟩ := nilK_inv h47
    obtain ⟨x2, r49, rfl, h50⟩ := bR h48
    obtain ⟨x3, r51, rfl, h52⟩ := bM h50
    obtain ⟨rfl, h53⟩ := bNilK_inv h52
    have h := h53
    refine ⟨_, _, rfl, rfl, ?_⟩
    rw [← J5_4_eq ae af ag ah ai aj aa ab ac ad ak al am x2 x3 K]
    exact h)
theorem B5_eq (K : List Blk → List PV → Prop) : evF C5 Try.f5 [] [] K = (([] : List Blk).length = 0 ∧ B5  (fun z0 => K [] [(.bool z0)])) := by kernel_rfl
theorem W5_of (hT : AllSound Try.prog pvT pvG T5) : Sound Try.prog pvT pvG 5 W5 := Sound.weak (evF_sound (C := C5) (Base.of pvT_fits pvT_sized pvT_eq hT pvMixed pvIt_ok) Try.func5 (LoopsOk.of (C := C5) (fn := Try.f5) (l := []) (r := [codeOf Try.f5 [1], codeOf Try.f5 [1, 1], codeOf Try.f5 [1, 1, 1], codeOf Try.f5 [1, 1, 0, 1], codeOf Try.f5 [1, 1, 0, 1, 0, 1], codeOf Try.f5 [1, 1, 1, 1], codeOf Try.f5 [1, 1, 1, 1, 1]]) (g := []) (by kernel_rfl) (by kernel_rfl) (by kernel_rfl) trivial ⟨(RestOk.none (by kernel_rfl)), ⟨(RestOk.none (by kernel_rfl)), ⟨Q5_4_ok, ⟨(RestOk.none (by kernel_rfl)), ⟨(RestOk.none (by kernel_rfl)), ⟨(RestOk.none (by kernel_rfl)), ⟨(RestOk.none (by kernel_rfl)), trivial⟩⟩⟩⟩⟩⟩⟩ trivial) (evF_to (C := C5) (fun bs t K h0 => by
    unfold P5 at h0
    obtain ⟨rfl, h1⟩ := nilK_inv h0
    obtain ⟨rfl, h2⟩ := bNilK_inv h1
    have h := h2
    refine ⟨_, _, rfl, rfl, ?_⟩
    rw [B5_eq  K]
    exact ⟨rfl, h⟩))) _
end Pv

namespace Pv
open Go Go.Proofs

theorem B22_eq (snumber : Int) (sfirst : Int) (slong : Int) (ssum : Int) (place : Int) (top : Int) (soff : Bool) (dn : Nat) (off : Bool) (cut : Bool) (whole : Int) (kept : Int) (writes : Int) (pairs : List PV) (secs : List PV) (K : List Blk → List PV → Prop) : evF C22 Try.f22 [(.box true 57 (.agg [(.ptr 1 64 0 []), (.mapr 2), (.agg [(.int .u64 snumber), (.int .i64 sfirst), (.int .i64 slong), (.int .u32 ssum)]), (.int .i64 place), (.int .u64 top), (.bool soff)])), (.box true 64 (.agg [(.sl 3 111 0 dn), (.bool off), (.bool cut), (.int .i64 whole), (.int .i64 kept), (.int .i64 writes)])), (.map false 9 77 pairs), (.row true 111 secs)] [(.ptr 0 57 0 [])] K = (([(.box true 57 (.agg [(.ptr 1 64 0 []), (.mapr 2), (.agg [(.int .u64 snumber), (.int .i64 sfirst), (.int .i64 slong), (.int .u32 ssum)]), (.int .i64 place), (.int .u64 top), (.bool soff)])), (.box true 64 (.agg [(.sl 3 111 0 dn), (.bool off), (.bool cut), (.int .i64 whole), (.int .i64 kept), (.int .i64 writes)])), (.map false 9 77 pairs), (.row true 111 secs)] : List Blk).length = 4 ∧ B22 snumber sfirst slong ssum place top soff dn off cut whole kept writes pairs secs (fun z0 z1 z2 z3 z4 z5 z6 z7 z8 z9 z10 z11 z12 z13 z14 z15 => K [(.box true 57 (.agg [(.ptr 1 64 0 []), (.mapr 2), (.agg [(.int .u64 z1), (.int .i64 z2), (.int .i64 z3), (.int .u32 z4)]), (.int .i64 z5), (.int .u64 z6), (.bool z7)])), (.box true 64 (.agg [(.sl 3 111 0 z8), (.bool z9), (.bool z10), (.int .i64 z11), (.int .i64 z12), (.int .i64 z13)])), (.map false 9 77 z14), (.row true 111 z15)] [(.int .i64 z0)])) := by kernel_rfl
theorem W22_of (hT : AllSound Try.prog pvT pvG T22) : Sound Try.prog pvT pvG 22 W22 := Sound.weak (evF_sound (C := C22) (Base.of pvT_fits pvT_sized pvT_eq hT pvMixed pvIt_ok) Try.func22 (LoopsOk.of (C := C22) (fn := Try.f22) (l := []) (g := []) (by kernel_rfl) rfl (by kernel_rfl) trivial (RestOk.all rfl _) trivial) (evF_to (C := C22) (fun bs t K h0 => by
    unfold P22 at h0
    obtain ⟨r2, rfl, h2⟩ := pI h0
    obtain ⟨rfl, h3⟩ := nilK_inv h2
    obtain ⟨r6, r4, rfl, h6⟩ := bA h3
    obtain ⟨r8, rfl, h8⟩ := pI h6
    obtain ⟨r10, rfl, h10⟩ := mI h8
    obtain ⟨r13, r12, rfl, h12⟩ := aI h10
    obtain ⟨snumber, r15, rfl, h14⟩ := iI h12
    obtain ⟨sfirst, r17, rfl, h16⟩ := iI h14
    obtain ⟨slong, r19, rfl, h18⟩ := iI h16
    obtain ⟨ssum, r21, rfl, h20⟩ := iI h18
    obtain ⟨rfl, h21⟩ := nilK_inv h20
    obtain ⟨place, r23, rfl, h23⟩ := iI h21
    obtain ⟨top, r25, rfl, h25⟩ := iI h23
    obtain ⟨soff, r27, rfl, h27⟩ := bI h25
    obtain ⟨rfl, h28⟩ := nilK_inv h27
    obtain ⟨r31, r29, rfl, h31⟩ := bA h28
    obtain ⟨dn, r33, rfl, h33⟩ := zI h31
    obtain ⟨off, r35, rfl, h35⟩ := bI h33
    obtain ⟨cut, r37, rfl, h37⟩ := bI h35
    obtain ⟨whole, r39, rfl, h39⟩ := iI h37
    obtain ⟨kept, r41, rfl, h41⟩ := iI h39
    obtain ⟨writes, r43, rfl, h43⟩ := iI h41
    obtain ⟨rfl, h44⟩ := nilK_inv h43
    obtain ⟨pairs, r45, rfl, h46⟩ := bM h44
    obtain ⟨secs, r47, rfl, h48⟩ := bR h46
    obtain ⟨rfl, h49⟩ := bNilK_inv h48
    have h := h49
    refine ⟨_, _, rfl, rfl, ?_⟩
    rw [B22_eq snumber sfirst slong ssum place top soff dn off cut whole kept writes pairs secs K]
    exact ⟨rfl, h⟩))) _
end Pv

namespace Pv
open Go Go.Proofs

theorem B8_eq (whole1 : Int) (kept1 : Int) (dn : Nat) (off : Bool) (cut : Bool) (whole : Int) (kept : Int) (writes : Int) (secs : List PV) (K : List Blk → List PV → Prop) : evF C8 Try.f8 [(.box true 64 (.agg [(.sl 1 111 0 dn), (.bool off), (.bool cut), (.int .i64 whole), (.int .i64 kept), (.int .i64 writes)])), (.row true 111 secs)] [(.ptr 0 64 0 []), (.int .i64 whole1), (.int .i64 kept1)] K = (([(.box true 64 (.agg [(.sl 1 111 0 dn), (.bool off), (.bool cut), (.int .i64 whole), (.int .i64 kept), (.int .i64 writes)])), (.row true 111 secs)] : List Blk).length = 2 ∧ B8 whole1 kept1 dn off cut whole kept writes secs (fun z0 z1 z2 z3 z4 z5 z6 z7 => K [(.box true 64 (.agg [(.sl 1 111 0 z1), (.bool z2), (.bool z3), (.int .i64 z4), (.int .i64 z5), (.int .i64 z6)])), (.row true 111 z7)] [(.int .i64 z0)])) := by kernel_rfl
theorem W8_of (hT : AllSound Try.prog pvT pvG T8) : Sound Try.prog pvT pvG 8 W8 := Sound.weak (evF_sound (C := C8) (Base.of pvT_fits pvT_sized pvT_eq hT pvMixed pvIt_ok) Try.func8 (LoopsOk.of (C := C8) (fn := Try.f8) (l := []) (g := []) (by kernel_rfl) rfl (by kernel_rfl) trivial (RestOk.all rfl _) trivial) (evF_to (C := C8) (fun bs t K h0 => by
    unfold P8 at h0
    obtain ⟨r2, rfl, h2⟩ := pI h0
    obtain ⟨whole1, r4, rfl, h4⟩ := iI h2
    obtain ⟨kept1, r6, rfl, h6⟩ := iI h4
    obtain ⟨rfl, h7⟩ := nilK_inv h6
    obtain ⟨r10, r8, rfl, h10⟩ := bA h7
    obtain ⟨dn, r12, rfl, h12⟩ := zI h10
    obtain ⟨off, r14, rfl, h14⟩ := bI h12
    obtain ⟨cut, r16, rfl, h16⟩ := bI h14
    obtain ⟨whole, r18, rfl, h18⟩ := iI h16
    obtain ⟨kept, r20, rfl, h20⟩ := iI h18
    obtain ⟨writes, r22, rfl, h22⟩ := iI h20
    obtain ⟨rfl, h23⟩ := nilK_inv h22
    obtain ⟨secs, r24, rfl, h25⟩ := bR h23
    obtain ⟨rfl, h26⟩ := bNilK_inv h25
    have h := h26
    refine ⟨_, _, rfl, rfl, ?_⟩
    rw [B8_eq whole1 kept1 dn off cut whole kept writes secs K]
    exact ⟨rfl, h⟩))) _
end Pv

namespace Pv
open Go Go.Proofs

theorem B17_eq (uat : Int) (want : ByteArray) (dn : Nat) (off : Bool) (cut : Bool) (whole : Int) (kept : Int) (writes : Int) (secs : List PV) (K : List Blk → List PV → Prop) : evF C17 Try.f17 [(.box true 64 (.agg [(.sl 1 111 0 dn), (.bool off), (.bool cut), (.int .i64 whole), (.int .i64 kept), (.int .i64 writes)])), (.row true 111 secs)] [(.ptr 0 64 0 []), (.int .i64 uat), (.str want)] K = (([(.box true 64 (.agg [(.sl 1 111 0 dn), (.bool off), (.bool cut), (.int .i64 whole), (.int .i64 kept), (.int .i64 writes)])), (.row true 111 secs)] : List Blk).length = 2 ∧ B17 uat want dn off cut whole kept writes secs (fun z0 z1 z2 z3 z4 z5 z6 z7 => K [(.box true 64 (.agg [(.sl 1 111 0 z1), (.bool z2), (.bool z3), (.int .i64 z4), (.int .i64 z5), (.int .i64 z6)])), (.row true 111 z7)] [(.bool z0)])) := by kernel_rfl
theorem W17_of (hT : AllSound Try.prog pvT pvG T17) : Sound Try.prog pvT pvG 17 W17 := Sound.weak (evF_sound (C := C17) (Base.of pvT_fits pvT_sized pvT_eq hT pvMixed pvIt_ok) Try.func17 (LoopsOk.of (C := C17) (fn := Try.f17) (l := []) (g := []) (by kernel_rfl) rfl (by kernel_rfl) trivial (RestOk.all rfl _) trivial) (evF_to (C := C17) (fun bs t K h0 => by
    unfold P17 at h0
    obtain ⟨r2, rfl, h2⟩ := pI h0
    obtain ⟨uat, r4, rfl, h4⟩ := iI h2
    obtain ⟨want, r6, rfl, h6⟩ := sI h4
    obtain ⟨rfl, h7⟩ := nilK_inv h6
    obtain ⟨r10, r8, rfl, h10⟩ := bA h7
    obtain ⟨dn, r12, rfl, h12⟩ := zI h10
    obtain ⟨off, r14, rfl, h14⟩ := bI h12
    obtain ⟨cut, r16, rfl, h16⟩ := bI h14
    obtain ⟨whole, r18, rfl, h18⟩ := iI h16
    obtain ⟨kept, r20, rfl, h20⟩ := iI h18
    obtain ⟨writes, r22, rfl, h22⟩ := iI h20
    obtain ⟨rfl, h23⟩ := nilK_inv h22
    obtain ⟨secs, r24, rfl, h25⟩ := bR h23
    obtain ⟨rfl, h26⟩ := bNilK_inv h25
    have h := h26
    refine ⟨_, _, rfl, rfl, ?_⟩
    rw [B17_eq uat want dn off cut whole kept writes secs K]
    exact ⟨rfl, h⟩))) _
end Pv

namespace Pv
open Go Go.Proofs

theorem B18_eq (dn : Nat) (off : Bool) (cut : Bool) (whole : Int) (kept : Int) (writes : Int) (secs : List PV) (K : List Blk → List PV → Prop) : evF C18 Try.f18 [(.box true 64 (.agg [(.sl 1 111 0 dn), (.bool off), (.bool cut), (.int .i64 whole), (.int .i64 kept), (.int .i64 writes)])), (.row true 111 secs)] [(.ptr 0 64 0 [])] K = (([(.box true 64 (.agg [(.sl 1 111 0 dn), (.bool off), (.bool cut), (.int .i64 whole), (.int .i64 kept), (.int .i64 writes)])), (.row true 111 secs)] : List Blk).length = 2 ∧ B18 dn off cut whole kept writes secs (fun z0 z1 z2 z3 z4 z5 z6 z7 => K [(.box true 64 (.agg [(.sl 1 111 0 z1), (.bool z2), (.bool z3), (.int .i64 z4), (.int .i64 z5), (.int .i64 z6)])), (.row true 111 z7)] [(.int .i64 z0)])) := by kernel_rfl
theorem W18_of (hT : AllSound Try.prog pvT pvG T18) : Sound Try.prog pvT pvG 18 W18 := Sound.weak (evF_sound (C := C18) (Base.of pvT_fits pvT_sized pvT_eq hT pvMixed pvIt_ok) Try.func18 (LoopsOk.of (C := C18) (fn := Try.f18) (l := []) (g := []) (by kernel_rfl) rfl (by kernel_rfl) trivial (RestOk.all rfl _) trivial) (evF_to (C := C18) (fun bs t K h0 => by
    unfold P18 at h0
    obtain ⟨r2, rfl, h2⟩ := pI h0
    obtain ⟨rfl, h3⟩ := nilK_inv h2
    obtain ⟨r6, r4, rfl, h6⟩ := bA h3
    obtain ⟨dn, r8, rfl, h8⟩ := zI h6
    obtain ⟨off, r10, rfl, h10⟩ := bI h8
    obtain ⟨cut, r12, rfl, h12⟩ := bI h10
    obtain ⟨whole, r14, rfl, h14⟩ := iI h12
    obtain ⟨kept, r16, rfl, h16⟩ := iI h14
    obtain ⟨writes, r18, rfl, h18⟩ := iI h16
    obtain ⟨rfl, h19⟩ := nilK_inv h18
    obtain ⟨secs, r20, rfl, h21⟩ := bR h19
    obtain ⟨rfl, h22⟩ := bNilK_inv h21
    have h := h22
    refine ⟨_, _, rfl, rfl, ?_⟩
    rw [B18_eq dn off cut whole kept writes secs K]
    exact ⟨rfl, h⟩))) _
end Pv

namespace Pv
open Go Go.Proofs

theorem B47_eq (n : Int) (rb : List PV) (made : Bool) (torn : Bool) (K : List Blk → List PV → Prop) : evF C47 Try.f47 [(.box true 132 (.agg [(.list 5 rb), (.bool made), (.bool torn)]))] [(.ptr 0 132 0 []), (.int .i64 n)] K = (([(.box true 132 (.agg [(.list 5 rb), (.bool made), (.bool torn)]))] : List Blk).length = 1 ∧ B47 n rb made torn (fun z0 z1 z2 z3 => K [(.box true 132 (.agg [(.list 5 z1), (.bool z2), (.bool z3)]))] [(.list 5 z0)])) := by kernel_rfl
theorem W47_of (hT : AllSound Try.prog pvT pvG T47) : Sound Try.prog pvT pvG 47 W47 := Sound.weak (evF_sound (C := C47) (Base.of pvT_fits pvT_sized pvT_eq hT pvMixed pvIt_ok) Try.func47 (LoopsOk.of (C := C47) (fn := Try.f47) (l := []) (g := []) (by kernel_rfl) rfl (by kernel_rfl) trivial (RestOk.all rfl _) trivial) (evF_to (C := C47) (fun bs t K h0 => by
    unfold P47 at h0
    obtain ⟨r2, rfl, h2⟩ := pI h0
    obtain ⟨n, r4, rfl, h4⟩ := iI h2
    obtain ⟨rfl, h5⟩ := nilK_inv h4
    obtain ⟨r8, r6, rfl, h8⟩ := bA h5
    obtain ⟨rb, r10, rfl, h10⟩ := lI h8
    obtain ⟨made, r12, rfl, h12⟩ := bI h10
    obtain ⟨torn, r14, rfl, h14⟩ := bI h12
    obtain ⟨rfl, h15⟩ := nilK_inv h14
    obtain ⟨rfl, h16⟩ := bNilK_inv h15
    have h := h16
    refine ⟨_, _, rfl, rfl, ?_⟩
    rw [B47_eq n rb made torn K]
    exact ⟨rfl, h⟩))) _
end Pv

namespace Pv
open Go Go.Proofs

theorem B52_eq (rb : List PV) (made : Bool) (torn : Bool) (K : List Blk → List PV → Prop) : evF C52 Try.f52 [(.box true 132 (.agg [(.list 5 rb), (.bool made), (.bool torn)]))] [(.ptr 0 132 0 [])] K = (([(.box true 132 (.agg [(.list 5 rb), (.bool made), (.bool torn)]))] : List Blk).length = 1 ∧ B52 rb made torn (fun z0 z1 z2 z3 => K [(.box true 132 (.agg [(.list 5 z1), (.bool z2), (.bool z3)]))] [(.bool z0)])) := by kernel_rfl
theorem W52_of (hT : AllSound Try.prog pvT pvG T52) : Sound Try.prog pvT pvG 52 W52 := Sound.weak (evF_sound (C := C52) (Base.of pvT_fits pvT_sized pvT_eq hT pvMixed pvIt_ok) Try.func52 (LoopsOk.of (C := C52) (fn := Try.f52) (l := []) (g := []) (by kernel_rfl) rfl (by kernel_rfl) trivial (RestOk.all rfl _) trivial) (evF_to (C := C52) (fun bs t K h0 => by
    unfold P52 at h0
    obtain ⟨r2, rfl, h2⟩ := pI h0
    obtain ⟨rfl, h3⟩ := nilK_inv h2
    obtain ⟨r6, r4, rfl, h6⟩ := bA h3
    obtain ⟨rb, r8, rfl, h8⟩ := lI h6
    obtain ⟨made, r10, rfl, h10⟩ := bI h8
    obtain ⟨torn, r12, rfl, h12⟩ := bI h10
    obtain ⟨rfl, h13⟩ := nilK_inv h12
    obtain ⟨rfl, h14⟩ := bNilK_inv h13
    have h := h14
    refine ⟨_, _, rfl, rfl, ?_⟩
    rw [B52_eq rb made torn K]
    exact ⟨rfl, h⟩))) _
end Pv

namespace Pv
open Go Go.Proofs

theorem B31_eq (p0f0 : ByteArray) (p0f1 : ByteArray) (K : List Blk → List PV → Prop) : evF C31 Try.f31 [] [(.agg [(.str p0f0), (.str p0f1)])] K = (([] : List Blk).length = 0 ∧ B31 p0f0 p0f1 (fun z0 => K [] [(.bool z0)])) := by kernel_rfl
theorem W31_of (hT : AllSound Try.prog pvT pvG T31) : Sound Try.prog pvT pvG 31 W31 := Sound.weak (evF_sound (C := C31) (Base.of pvT_fits pvT_sized pvT_eq hT pvMixed pvIt_ok) Try.func31 (LoopsOk.of (C := C31) (fn := Try.f31) (l := []) (g := []) (by kernel_rfl) rfl (by kernel_rfl) trivial (RestOk.all rfl _) trivial) (evF_to (C := C31) (fun bs t K h0 => by
    unfold P31 at h0
    obtain ⟨r3, r2, rfl, h2⟩ := aI h0
    obtain ⟨p0f0, r5, rfl, h4⟩ := sI h2
    obtain ⟨p0f1, r7, rfl, h6⟩ := sI h4
    obtain ⟨rfl, h7⟩ := nilK_inv h6
    obtain ⟨rfl, h8⟩ := nilK_inv h7
    obtain ⟨rfl, h9⟩ := bNilK_inv h8
    have h := h9
    refine ⟨_, _, rfl, rfl, ?_⟩
    rw [B31_eq p0f0 p0f1 K]
    exact ⟨rfl, h⟩))) _
end Pv

namespace Pv
open Go Go.Proofs

theorem B55_eq (b0 : List PV) (t1 : List PV) (K : List Blk → List PV → Prop) : evF C55 Try.f55 [] [(.list 5 b0), (.list 5 t1)] K = (([] : List Blk).length = 0 ∧ B55 b0 t1 (fun z0 z1 => K [(.row true 5 z1)] [(.sl 0 5 0 z0)])) := by kernel_rfl
theorem W55_of (hT : AllSound Try.prog pvT pvG T55) : Sound Try.prog pvT pvG 55 W55 := Sound.weak (evF_sound (C := C55) (Base.of pvT_fits pvT_sized pvT_eq hT pvMixed pvIt_ok) Try.func55 (LoopsOk.of (C := C55) (fn := Try.f55) (l := []) (g := []) (by kernel_rfl) rfl (by kernel_rfl) trivial (RestOk.all rfl _) trivial) (evF_to (C := C55) (fun bs t K h0 => by
    unfold P55 at h0
    obtain ⟨b0, r2, rfl, h2⟩ := lI h0
    obtain ⟨t1, r4, rfl, h4⟩ := lI h2
    obtain ⟨rfl, h5⟩ := nilK_inv h4
    obtain ⟨rfl, h6⟩ := bNilK_inv h5
    have h := h6
    refine ⟨_, _, rfl, rfl, ?_⟩
    rw [B55_eq b0 t1 K]
    exact ⟨rfl, h⟩))) _
end Pv

namespace Pv
open Go Go.Proofs

theorem B46_eq (b0 : List PV) (K : List Blk → List PV → Prop) : evF C46 Try.f46 [] [(.list 5 b0)] K = (([] : List Blk).length = 0 ∧ B46 b0 (fun z0 => K [(.box true 132 (.agg [(.list 5 z0), (.bool true), (.bool false)]))] [(.ptr 0 132 0 [])])) := by kernel_rfl
theorem W46_of (hT : AllSound Try.prog pvT pvG T46) : Sound Try.prog pvT pvG 46 W46 := Sound.weak (evF_sound (C := C46) (Base.of pvT_fits pvT_sized pvT_eq hT pvMixed pvIt_ok) Try.func46 (LoopsOk.of (C := C46) (fn := Try.f46) (l := []) (g := []) (by kernel_rfl) rfl (by kernel_rfl) trivial (RestOk.all rfl _) trivial) (evF_to (C := C46) (fun bs t K h0 => by
    unfold P46 at h0
    obtain ⟨b0, r2, rfl, h2⟩ := lI h0
    obtain ⟨rfl, h3⟩ := nilK_inv h2
    obtain ⟨rfl, h4⟩ := bNilK_inv h3
    have h := h4
    refine ⟨_, _, rfl, rfl, ?_⟩
    rw [B46_eq b0 K]
    exact ⟨rfl, h⟩))) _
end Pv

namespace Pv
open Go Go.Proofs

theorem B69_eq (first0 : Int) (K : List Blk → List PV → Prop) : evF C69 Try.f69 [] [(.int .u64 first0)] K = (([] : List Blk).length = 0 ∧ B69 first0 (fun z0 => K [] [(.int .i64 z0)])) := by kernel_rfl
theorem W69_of (hT : AllSound Try.prog pvT pvG T69) : Sound Try.prog pvT pvG 69 W69 := Sound.weak (evF_sound (C := C69) (Base.of pvT_fits pvT_sized pvT_eq hT pvMixed pvIt_ok) Try.func69 (LoopsOk.of (C := C69) (fn := Try.f69) (l := []) (g := []) (by kernel_rfl) rfl (by kernel_rfl) trivial (RestOk.all rfl _) trivial) (evF_to (C := C69) (fun bs t K h0 => by
    unfold P69 at h0
    obtain ⟨first0, r2, rfl, h2⟩ := iI h0
    obtain ⟨rfl, h3⟩ := nilK_inv h2
    obtain ⟨rfl, h4⟩ := bNilK_inv h3
    have h := h4
    refine ⟨_, _, rfl, rfl, ?_⟩
    rw [B69_eq first0 K]
    exact ⟨rfl, h⟩))) _
end Pv

namespace Pv
open Go Go.Proofs

theorem B27_eq (b0 : List PV) (K : List Blk → List PV → Prop) : evF C27 Try.f27 [] [(.list 5 b0)] K = (([] : List Blk).length = 0 ∧ B27 b0 (fun z0 => K [] [(.int .u32 z0)])) := by kernel_rfl
theorem W27_of (hT : AllSound Try.prog pvT pvG T27) : Sound Try.prog pvT pvG 27 W27 := Sound.weak (evF_sound (C := C27) (Base.of pvT_fits pvT_sized pvT_eq hT pvMixed pvIt_ok) Try.func27 (LoopsOk.of (C := C27) (fn := Try.f27) (l := []) (g := []) (by kernel_rfl) rfl (by kernel_rfl) trivial (RestOk.all rfl _) trivial) (evF_to (C := C27) (fun bs t K h0 => by
    unfold P27 at h0
    obtain ⟨b0, r2, rfl, h2⟩ := lI h0
    obtain ⟨rfl, h3⟩ := nilK_inv h2
    obtain ⟨rfl, h4⟩ := bNilK_inv h3
    have h := h4
    refine ⟨_, _, rfl, rfl, ?_⟩
    rw [B27_eq b0 K]
    exact ⟨rfl, h⟩))) _
end Pv
