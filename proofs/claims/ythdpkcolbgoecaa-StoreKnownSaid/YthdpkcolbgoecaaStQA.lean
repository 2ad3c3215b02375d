/- A part of the proof. No conditions of its own beyond those that its theorems name. -/
import Derived.Test.YthdpkcolbgoecaaStK

namespace Pv
open Go Go.Proofs

theorem B29n_eq (K : List Blk → List PV → Prop) : evF C29n Try.f29 [] [.nilp] K = (([] : List Blk).length = 0 ∧ B29n  (K [] [(.bool false)])) := by kernel_rfl
theorem W29n_of (hT : AllSound Try.prog pvT pvG T29n) : Sound Try.prog pvT pvG 29 W29n := Sound.weak (evF_sound (C := C29n) (Base.of pvT_fits pvT_sized pvT_eq hT pvMixed pvIt_ok) Try.func29 (LoopsOk.of (C := C29n) (fn := Try.f29) (l := []) (g := []) (by kernel_rfl) rfl (by kernel_rfl) trivial (RestOk.all rfl _) trivial) (evF_to (C := C29n) (fun bs t K h0 => by
    unfold P29n at h0
    obtain ⟨r1, r2, rfl, h1⟩ := consK_inv h0
    obtain ⟨rfl, h2⟩ := nilpK_inv h1
    obtain ⟨rfl, h3⟩ := nilK_inv h2
    obtain ⟨rfl, h4⟩ := bNilK_inv h3
    have h := h4
    refine ⟨_, _, rfl, rfl, ?_⟩
    rw [B29n_eq  K]
    exact ⟨rfl, h⟩))) _
end Pv

namespace Pv
open Go Go.Proofs

theorem B10n_eq (l : List PV) (K : List Blk → List PV → Prop) : evF C10n Try.f10 [] [.nilp, (.list 36 l)] K = (([] : List Blk).length = 0 ∧ B10n l (K [] [(.int .i64 1)])) := by kernel_rfl
theorem W10n_of (hT : AllSound Try.prog pvT pvG T10n) : Sound Try.prog pvT pvG 10 W10n := Sound.weak (evF_sound (C := C10n) (Base.of pvT_fits pvT_sized pvT_eq hT pvMixed pvIt_ok) Try.func10 (LoopsOk.of (C := C10n) (fn := Try.f10) (l := [codeOf Try.f10 [1, 1, 1, 0, 1, 0, 0], codeOf Try.f10 [1, 1, 1, 1, 1, 1, 1, 1, 1, 0, 1, 0, 0]]) (g := []) (by kernel_rfl) rfl (by kernel_rfl) ⟨(LoopOk.dead (by kernel_rfl)), ⟨(LoopOk.dead (by kernel_rfl)), trivial⟩⟩ (RestOk.all rfl _) trivial) (evF_to (C := C10n) (fun bs t K h0 => by
    unfold P10n at h0
    obtain ⟨r1, r2, rfl, h1⟩ := consK_inv h0
    obtain ⟨rfl, h2⟩ := nilpK_inv h1
    obtain ⟨l, r4, rfl, h4⟩ := lI h2
    obtain ⟨rfl, h5⟩ := nilK_inv h4
    obtain ⟨rfl, h6⟩ := bNilK_inv h5
    have h := h6
    refine ⟨_, _, rfl, rfl, ?_⟩
    rw [B10n_eq l K]
    exact ⟨rfl, h⟩))) _
end Pv

namespace Pv
open Go Go.Proofs

theorem B29z_eq (snumber : Int) (sfirst : Int) (slong : Int) (ssum : Int) (place : Int) (top : Int) (soff : Bool) (K : List Blk → List PV → Prop) : evF C29z Try.f29 [(.box true 57 (.agg [.nilp, .nilm, (.agg [(.int .u64 snumber), (.int .i64 sfirst), (.int .i64 slong), (.int .u32 ssum)]), (.int .i64 place), (.int .u64 top), (.bool soff)]))] [(.ptr 0 57 0 [])] K = (([(.box true 57 (.agg [.nilp, .nilm, (.agg [(.int .u64 snumber), (.int .i64 sfirst), (.int .i64 slong), (.int .u32 ssum)]), (.int .i64 place), (.int .u64 top), (.bool soff)]))] : List Blk).length = 1 ∧ B29z snumber sfirst slong ssum place top soff (fun z0 z1 z2 z3 z4 z5 z6 => K [(.box true 57 (.agg [.nilp, .nilm, (.agg [(.int .u64 z0), (.int .i64 z1), (.int .i64 z2), (.int .u32 z3)]), (.int .i64 z4), (.int .u64 z5), (.bool z6)]))] [(.bool false)])) := by kernel_rfl
theorem W29z_of (hT : AllSound Try.prog pvT pvG T29z) : Sound Try.prog pvT pvG 29 W29z := Sound.weak (evF_sound (C := C29z) (Base.of pvT_fits pvT_sized pvT_eq hT pvMixed pvIt_ok) Try.func29 (LoopsOk.of (C := C29z) (fn := Try.f29) (l := []) (g := []) (by kernel_rfl) rfl (by kernel_rfl) trivial (RestOk.all rfl _) trivial) (evF_to (C := C29z) (fun bs t K h0 => by
    unfold P29z at h0
    obtain ⟨r2, rfl, h2⟩ := pI h0
    obtain ⟨rfl, h3⟩ := nilK_inv h2
    obtain ⟨r6, r4, rfl, h6⟩ := bA h3
    obtain ⟨r7, r8, rfl, h7⟩ := consK_inv h6
    obtain ⟨rfl, h8⟩ := nilpK_inv h7
    obtain ⟨r9, r10, rfl, h9⟩ := consK_inv h8
    obtain ⟨rfl, h10⟩ := nilmK_inv h9
    obtain ⟨r13, r12, rfl, h12⟩ := aI h10
    obtain ⟨snumber, r15, rfl, h14⟩ := iI h12
    obtain ⟨sfirst, r17, rfl, h16⟩ := iI h14
    obtain ⟨slong, r19, rfl, h18⟩ := iI h16
    obtain ⟨ssum, r21, rfl, h20⟩ := iI h18
    obtain ⟨rfl, h21⟩ := nilK_inv h20
    obtain ⟨place, r23, rfl, h23⟩ := iI h21
    obtain ⟨top, r25, rfl, h25⟩ := iI h23
    obtain ⟨soff, r27, rfl, h27⟩ := bI h25
    obtain ⟨rfl, h28⟩ := nilK_inv h27
    obtain ⟨rfl, h29⟩ := bNilK_inv h28
    have h := h29
    refine ⟨_, _, rfl, rfl, ?_⟩
    rw [B29z_eq snumber sfirst slong ssum place top soff K]
    exact ⟨rfl, h⟩))) _
end Pv

namespace Pv
open Go Go.Proofs

theorem B10z_eq (l : List PV) (snumber : Int) (sfirst : Int) (slong : Int) (ssum : Int) (place : Int) (top : Int) (soff : Bool) (K : List Blk → List PV → Prop) : evF C10z Try.f10 [(.box true 57 (.agg [.nilp, .nilm, (.agg [(.int .u64 snumber), (.int .i64 sfirst), (.int .i64 slong), (.int .u32 ssum)]), (.int .i64 place), (.int .u64 top), (.bool soff)]))] [(.ptr 0 57 0 []), (.list 36 l)] K = (([(.box true 57 (.agg [.nilp, .nilm, (.agg [(.int .u64 snumber), (.int .i64 sfirst), (.int .i64 slong), (.int .u32 ssum)]), (.int .i64 place), (.int .u64 top), (.bool soff)]))] : List Blk).length = 1 ∧ B10z l snumber sfirst slong ssum place top soff (fun z0 z1 z2 z3 z4 z5 z6 => K [(.box true 57 (.agg [.nilp, .nilm, (.agg [(.int .u64 z0), (.int .i64 z1), (.int .i64 z2), (.int .u32 z3)]), (.int .i64 z4), (.int .u64 z5), (.bool z6)]))] [(.int .i64 1)])) := by kernel_rfl
theorem W10z_of (hT : AllSound Try.prog pvT pvG T10z) : Sound Try.prog pvT pvG 10 W10z := Sound.weak (evF_sound (C := C10z) (Base.of pvT_fits pvT_sized pvT_eq hT pvMixed pvIt_ok) Try.func10 (LoopsOk.of (C := C10z) (fn := Try.f10) (l := [codeOf Try.f10 [1, 1, 1, 0, 1, 0, 0], codeOf Try.f10 [1, 1, 1, 1, 1, 1, 1, 1, 1, 0, 1, 0, 0]]) (g := []) (by kernel_rfl) rfl (by kernel_rfl) ⟨(LoopOk.dead (by kernel_rfl)), ⟨(LoopOk.dead (by kernel_rfl)), trivial⟩⟩ (RestOk.all rfl _) trivial) (evF_to (C := C10z) (fun bs t K h0 => by
    unfold P10z at h0
    obtain ⟨r2, rfl, h2⟩ := pI h0
    obtain ⟨l, r4, rfl, h4⟩ := lI h2
    obtain ⟨rfl, h5⟩ := nilK_inv h4
    obtain ⟨r8, r6, rfl, h8⟩ := bA h5
    obtain ⟨r9, r10, rfl, h9⟩ := consK_inv h8
    obtain ⟨rfl, h10⟩ := nilpK_inv h9
    obtain ⟨r11, r12, rfl, h11⟩ := consK_inv h10
    obtain ⟨rfl, h12⟩ := nilmK_inv h11
    obtain ⟨r15, r14, rfl, h14⟩ := aI h12
    obtain ⟨snumber, r17, rfl, h16⟩ := iI h14
    obtain ⟨sfirst, r19, rfl, h18⟩ := iI h16
    obtain ⟨slong, r21, rfl, h20⟩ := iI h18
    obtain ⟨ssum, r23, rfl, h22⟩ := iI h20
    obtain ⟨rfl, h23⟩ := nilK_inv h22
    obtain ⟨place, r25, rfl, h25⟩ := iI h23
    obtain ⟨top, r27, rfl, h27⟩ := iI h25
    obtain ⟨soff, r29, rfl, h29⟩ := bI h27
    obtain ⟨rfl, h30⟩ := nilK_inv h29
    obtain ⟨rfl, h31⟩ := bNilK_inv h30
    have h := h31
    refine ⟨_, _, rfl, rfl, ?_⟩
    rw [B10z_eq l snumber sfirst slong ssum place top soff K]
    exact ⟨rfl, h⟩))) _
end Pv

namespace Pv
open Go Go.Proofs

theorem B23n_eq (K : List Blk → List PV → Prop) : evF C23n Try.f23 [] [.nilp] K = (([] : List Blk).length = 0 ∧ B23n  (K [] [(.int .i64 0)])) := by kernel_rfl
theorem W23n_of (hT : AllSound Try.prog pvT pvG T23n) : Sound Try.prog pvT pvG 23 W23n := Sound.weak (evF_sound (C := C23n) (Base.of pvT_fits pvT_sized pvT_eq hT pvMixed pvIt_ok) Try.func23 (LoopsOk.of (C := C23n) (fn := Try.f23) (l := []) (g := []) (by kernel_rfl) rfl (by kernel_rfl) trivial (RestOk.all rfl _) trivial) (evF_to (C := C23n) (fun bs t K h0 => by
    unfold P23n at h0
    obtain ⟨r1, r2, rfl, h1⟩ := consK_inv h0
    obtain ⟨rfl, h2⟩ := nilpK_inv h1
    obtain ⟨rfl, h3⟩ := nilK_inv h2
    obtain ⟨rfl, h4⟩ := bNilK_inv h3
    have h := h4
    refine ⟨_, _, rfl, rfl, ?_⟩
    rw [B23n_eq  K]
    exact ⟨rfl, h⟩))) _
end Pv

namespace Pv
open Go Go.Proofs

theorem B7n_eq (K : List Blk → List PV → Prop) : evF C7n Try.f7 [] [.nilp] K = (([] : List Blk).length = 0 ∧ B7n  (K [] [.nilp, (.int .i64 1)])) := by kernel_rfl
theorem W7n_of (hT : AllSound Try.prog pvT pvG T7n) : Sound Try.prog pvT pvG 7 W7n := Sound.weak (evF_sound (C := C7n) (Base.of pvT_fits pvT_sized pvT_eq hT pvMixed pvIt_ok) Try.func7 (LoopsOk.of (C := C7n) (fn := Try.f7) (l := [codeOf Try.f7 [1, 1, 1, 0, 1, 0, 0]]) (g := []) (by kernel_rfl) rfl (by kernel_rfl) ⟨(LoopOk.dead (by kernel_rfl)), trivial⟩ (RestOk.all rfl _) trivial) (evF_to (C := C7n) (fun bs t K h0 => by
    unfold P7n at h0
    obtain ⟨r1, r2, rfl, h1⟩ := consK_inv h0
    obtain ⟨rfl, h2⟩ := nilpK_inv h1
    obtain ⟨rfl, h3⟩ := nilK_inv h2
    obtain ⟨rfl, h4⟩ := bNilK_inv h3
    have h := h4
    refine ⟨_, _, rfl, rfl, ?_⟩
    rw [B7n_eq  K]
    exact ⟨rfl, h⟩))) _
end Pv

namespace Pv
open Go Go.Proofs

theorem B16n_eq (K : List Blk → List PV → Prop) : evF C16n Try.f16 [] [.nilp] K = (([] : List Blk).length = 0 ∧ B16n  (K [] [.nilsl])) := by kernel_rfl
theorem W16n_of (hT : AllSound Try.prog pvT pvG T16n) : Sound Try.prog pvT pvG 16 W16n := Sound.weak (evF_sound (C := C16n) (Base.of pvT_fits pvT_sized pvT_eq hT pvMixed pvIt_ok) Try.func16 (LoopsOk.of (C := C16n) (fn := Try.f16) (l := []) (g := []) (by kernel_rfl) rfl (by kernel_rfl) trivial (RestOk.all rfl _) trivial) (evF_to (C := C16n) (fun bs t K h0 => by
    unfold P16n at h0
    obtain ⟨r1, r2, rfl, h1⟩ := consK_inv h0
    obtain ⟨rfl, h2⟩ := nilpK_inv h1
    obtain ⟨rfl, h3⟩ := nilK_inv h2
    obtain ⟨rfl, h4⟩ := bNilK_inv h3
    have h := h4
    refine ⟨_, _, rfl, rfl, ?_⟩
    rw [B16n_eq  K]
    exact ⟨rfl, h⟩))) _
end Pv

namespace Pv
open Go Go.Proofs

theorem B20n_eq (key : ByteArray) (K : List Blk → List PV → Prop) : evF C20n Try.f20 [] [.nilp, (.str key)] K = (([] : List Blk).length = 0 ∧ B20n key (fun z0 => K [] [(.str z0), (.bool false)])) := by kernel_rfl
theorem W20n_of (hT : AllSound Try.prog pvT pvG T20n) : Sound Try.prog pvT pvG 20 W20n := Sound.weak (evF_sound (C := C20n) (Base.of pvT_fits pvT_sized pvT_eq hT pvMixed pvIt_ok) Try.func20 (LoopsOk.of (C := C20n) (fn := Try.f20) (l := []) (g := []) (by kernel_rfl) rfl (by kernel_rfl) trivial (RestOk.all rfl _) trivial) (evF_to (C := C20n) (fun bs t K h0 => by
    unfold P20n at h0
    obtain ⟨r1, r2, rfl, h1⟩ := consK_inv h0
    obtain ⟨rfl, h2⟩ := nilpK_inv h1
    obtain ⟨key, r4, rfl, h4⟩ := sI h2
    obtain ⟨rfl, h5⟩ := nilK_inv h4
    obtain ⟨rfl, h6⟩ := bNilK_inv h5
    have h := h6
    refine ⟨_, _, rfl, rfl, ?_⟩
    rw [B20n_eq key K]
    exact ⟨rfl, h⟩))) _
end Pv

namespace Pv
open Go Go.Proofs

theorem B22z_eq (snumber : Int) (sfirst : Int) (slong : Int) (ssum : Int) (place : Int) (top : Int) (soff : Bool) (K : List Blk → List PV → Prop) : evF C22z Try.f22 [(.box true 57 (.agg [.nilp, .nilm, (.agg [(.int .u64 snumber), (.int .i64 sfirst), (.int .i64 slong), (.int .u32 ssum)]), (.int .i64 place), (.int .u64 top), (.bool soff)]))] [(.ptr 0 57 0 [])] K = (([(.box true 57 (.agg [.nilp, .nilm, (.agg [(.int .u64 snumber), (.int .i64 sfirst), (.int .i64 slong), (.int .u32 ssum)]), (.int .i64 place), (.int .u64 top), (.bool soff)]))] : List Blk).length = 1 ∧ B22z snumber sfirst slong ssum place top soff (fun z0 z1 z2 z3 z4 z5 z6 => K [(.box true 57 (.agg [.nilp, .nilm, (.agg [(.int .u64 z0), (.int .i64 z1), (.int .i64 z2), (.int .u32 z3)]), (.int .i64 z4), (.int .u64 z5), (.bool z6)]))] [(.int .i64 0)])) := by kernel_rfl
theorem W22z_of (hT : AllSound Try.prog pvT pvG T22z) : Sound Try.prog pvT pvG 22 W22z := Sound.weak (evF_sound (C := C22z) (Base.of pvT_fits pvT_sized pvT_eq hT pvMixed pvIt_ok) Try.func22 (LoopsOk.of (C := C22z) (fn := Try.f22) (l := []) (g := []) (by kernel_rfl) rfl (by kernel_rfl) trivial (RestOk.all rfl _) trivial) (evF_to (C := C22z) (fun bs t K h0 => by
    unfold P22z at h0
    obtain ⟨r2, rfl, h2⟩ := pI h0
    obtain ⟨rfl, h3⟩ := nilK_inv h2
    obtain ⟨r6, r4, rfl, h6⟩ := bA h3
    obtain ⟨r7, r8, rfl, h7⟩ := consK_inv h6
    obtain ⟨rfl, h8⟩ := nilpK_inv h7
    obtain ⟨r9, r10, rfl, h9⟩ := consK_inv h8
    obtain ⟨rfl, h10⟩ := nilmK_inv h9
    obtain ⟨r13, r12, rfl, h12⟩ := aI h10
    obtain ⟨snumber, r15, rfl, h14⟩ := iI h12
    obtain ⟨sfirst, r17, rfl, h16⟩ := iI h14
    obtain ⟨slong, r19, rfl, h18⟩ := iI h16
    obtain ⟨ssum, r21, rfl, h20⟩ := iI h18
    obtain ⟨rfl, h21⟩ := nilK_inv h20
    obtain ⟨place, r23, rfl, h23⟩ := iI h21
    obtain ⟨top, r25, rfl, h25⟩ := iI h23
    obtain ⟨soff, r27, rfl, h27⟩ := bI h25
    obtain ⟨rfl, h28⟩ := nilK_inv h27
    obtain ⟨rfl, h29⟩ := bNilK_inv h28
    have h := h29
    refine ⟨_, _, rfl, rfl, ?_⟩
    rw [B22z_eq snumber sfirst slong ssum place top soff K]
    exact ⟨rfl, h⟩))) _
end Pv

namespace Pv
open Go Go.Proofs

theorem J4_23_eq (t10 : Int) (t12 : Int) (t16 : Bool) (t18 : Int) (aa : Int) (ab : Int) (ac : Int) (ad : Int) (ae : Int) (af : Int) (ag : Bool) (K : Ex → List PV → List Blk → Prop) : J4_23 t10 t12 t16 t18 aa ab ac ad ae af ag (fun z0 => K .ret ((.bool z0) :: skU 178 []) []) = evC C4 (codeOf Try.f4 [1, 1, 1, 1, 1, 1, 1, 1, 1, 1, 1, 1, 1, 1, 1, 1, 1, 1, 1]) (mkSt (skU 10 ((.int .i64 t10) :: skU 1 ((.int .i64 t12) :: .nilp :: (.ptr 0 57 0 []) :: skU 1 ((.bool t16) :: skU 1 ((.int .i64 t18) :: skU 160 []))))) [(.box true 57 (.agg [.nilp, .nilm, (.agg [(.int .u64 aa), (.int .i64 ab), (.int .i64 ac), (.int .u32 ad)]), (.int .i64 ae), (.int .u64 af), (.bool ag)]))]) (onSt K) := by kernel_rfl
theorem Q4_23_ok : RestOk C4 (codeOf Try.f4 [1, 1, 1, 1, 1, 1, 1, 1, 1, 1, 1, 1, 1, 1, 1, 1, 1, 1, 1]) := RestOk.to (l := Q4_23) (by kernel_rfl) (by
    intro t bs K h0
    unfold Q4_23 at h0
    obtain ⟨r1, rfl, h1⟩ := skipU_inv h0
    obtain ⟨t10, r3, rfl, h3⟩ := iI h1
    obtain ⟨r4, rfl, h4⟩ := skipU_inv h3
    obtain ⟨t12, r6, rfl, h6⟩ := iI h4
    obtain ⟨r7, r8, rfl, h7⟩ := consK_inv h6
    obtain ⟨rfl, h8⟩ := nilpK_inv h7
    obtain ⟨r10, rfl, h10⟩ := pI h8
    obtain ⟨r11, rfl, h11⟩ := skipU_inv h10
    obtain ⟨t16, r13, rfl, h13⟩ := bI h11
    obtain ⟨r14, rfl, h14⟩ := skipU_inv h13
    obtain ⟨t18, r16, rfl, h16⟩ := iI h14
    obtain ⟨r17, rfl, h17⟩ := skipU_inv h16
    obtain ⟨rfl, h18⟩ := nilK_inv h17
    obtain ⟨r21, r19, rfl, h21⟩ := bA h18
    obtain ⟨r22, r23, rfl, h22⟩ := consK_inv h21
    obtain ⟨rfl, h23⟩ := nilpK_inv h22
    obtain ⟨r24, r25, rfl, h24⟩ := consK_inv h23
    obtain ⟨rfl, h25⟩ := nilmK_inv h24
    obtain ⟨r28, r27, rfl, h27⟩ := aI h25
    obtain ⟨aa, r30, rfl, h29⟩ := iI h27
    obtain ⟨ab, r32, rfl, h31⟩ := iI h29
    obtain ⟨ac, r34, rfl, h33⟩ := iI h31
    obtain ⟨ad, r36, rfl, h35⟩ := iI h33
    obtain ⟨rfl, h36⟩ := nilK_inv h35
    obtain ⟨ae, r38, rfl, h38⟩ := iI h36
    obtain ⟨af, r40, rfl, h40⟩ := iI h38
    obtain ⟨ag, r42, rfl, h42⟩ := bI h40
    obtain ⟨rfl, h43⟩ := nilK_inv h42
    obtain ⟨rfl, h44⟩ := bNilK_inv h43
    have h := h44
    refine ⟨_, _, rfl, rfl, ?_⟩
    rw [← J4_23_eq t10 t12 t16 t18 aa ab ac ad ae af ag K]
    exact h)
theorem J4_22_eq (t10 : Int) (t12 : Int) (t16 : Bool) (ae : Nat) (af : Bool) (ag : Bool) (ah : Int) (ai : Int) (aj : Int) (aa : Int) (ab : Int) (ac : Int) (ad : Int) (ak : Int) (al : Int) (am : Bool) (x2 : List PV) (K : Ex → List PV → List Blk → Prop) : J4_22 t10 t12 t16 ae af ag ah ai aj aa ab ac ad ak al am x2 (fun z0 => K .ret ((.bool z0) :: skU 178 []) []) = evC C4 (codeOf Try.f4 [1, 1, 1, 1, 1, 1, 1, 1, 1, 1, 1, 1, 1, 1, 1, 1, 1, 1]) (mkSt (skU 1 ((.ptr 0 64 0 []) :: skU 8 ((.int .i64 t10) :: skU 1 ((.int .i64 t12) :: .nilp :: (.ptr 1 57 0 []) :: skU 1 ((.bool t16) :: skU 162 []))))) [(.box true 64 (.agg [(.sl 2 111 0 ae), (.bool af), (.bool ag), (.int .i64 ah), (.int .i64 ai), (.int .i64 aj)])), (.box true 57 (.agg [.nilp, .nilm, (.agg [(.int .u64 aa), (.int .i64 ab), (.int .i64 ac), (.int .u32 ad)]), (.int .i64 ak), (.int .u64 al), (.bool am)])), (.row true 111 x2)]) (onSt K) := by kernel_rfl
theorem Q4_22_ok : RestOk C4 (codeOf Try.f4 [1, 1, 1, 1, 1, 1, 1, 1, 1, 1, 1, 1, 1, 1, 1, 1, 1, 1]) := RestOk.to (l := Q4_22) (by kernel_rfl) (by
    intro t bs K h0
    unfold Q4_22 at h0
    obtain ⟨r1, rfl, h1⟩ := skipU_inv h0
    obtain ⟨r3, rfl, h3⟩ := pI h1
    obtain ⟨r4, rfl, h4⟩ := skipU_inv h3
    obtain ⟨t10, r6, rfl, h6⟩ := iI h4
    obtain ⟨r7, rfl, h7⟩ := skipU_inv h6
    obtain ⟨t12, r9, rfl, h9⟩ := iI h7
    obtain ⟨r10, r11, rfl, h10⟩ := consK_inv h9
    obtain ⟨rfl, h11⟩ := nilpK_inv h10
    obtain ⟨r13, rfl, h13⟩ := pI h11
    obtain ⟨r14, rfl, h14⟩ := skipU_inv h13
    obtain ⟨t16, r16, rfl, h16⟩ := bI h14
    obtain ⟨r17, rfl, h17⟩ := skipU_inv h16
    obtain ⟨rfl, h18⟩ := nilK_inv h17
    obtain ⟨r21, r19, rfl, h21⟩ := bA h18
    obtain ⟨ae, r23, rfl, h23⟩ := zI h21
    obtain ⟨af, r25, rfl, h25⟩ := bI h23
    obtain ⟨ag, r27, rfl, h27⟩ := bI h25
    obtain ⟨ah, r29, rfl, h29⟩ := iI h27
    obtain ⟨ai, r31, rfl, h31⟩ := iI h29
    obtain ⟨aj, r33, rfl, h33⟩ := iI h31
    obtain ⟨rfl, h34⟩ := nilK_inv h33
    obtain ⟨r37, r35, rfl, h37⟩ := bA h34
    obtain ⟨r38, r39, rfl, h38⟩ := consK_inv h37
    obtain ⟨rfl, h39⟩ := nilpK_inv h38
    obtain ⟨r40, r41, rfl, h40⟩ := consK_inv h39
    obtain ⟨rfl, h41⟩ := nilmK_inv h40
    obtain ⟨r44, r43, rfl, h43⟩ := aI h41
    obtain ⟨aa, r46, rfl, h45⟩ := iI h43
    obtain ⟨ab, r48, rfl, h47⟩ := iI h45
    obtain ⟨ac, r50, rfl, h49⟩ := iI h47
    obtain ⟨ad, r52, rfl, h51⟩ := iI h49
    obtain ⟨rfl, h52⟩ := nilK_inv h51
    obtain ⟨ak, r54, rfl, h54⟩ := iI h52
    obtain ⟨al, r56, rfl, h56⟩ := iI h54
    obtain ⟨am, r58, rfl, h58⟩ := bI h56
    obtain ⟨rfl, h59⟩ := nilK_inv h58
    obtain ⟨x2, r60, rfl, h61⟩ := bR h59
    obtain ⟨rfl, h62⟩ := bNilK_inv h61
    have h := h62
    refine ⟨_, _, rfl, rfl, ?_⟩
    rw [← J4_22_eq t10 t12 t16 ae af ag ah ai aj aa ab ac ad ak al am x2 K]
    exact h)
theorem J4_21_eq (t10 : Int) (t12 : Int) (t16 : Bool) (ae : Nat) (af : Bool) (ag : Bool) (ah : Int) (ai : Int) (aj : Int) (aa : Int) (ab : Int) (ac : Int) (ad : Int) (ak : Int) (al : Int) (am : Bool) (x2 : List PV) (K : Ex → List PV → List Blk → Prop) : J4_21 t10 t12 t16 ae af ag ah ai aj aa ab ac ad ak al am x2 (fun z0 => K .ret ((.bool z0) :: skU 178 []) []) = evC C4 (codeOf Try.f4 [1, 1, 1, 1, 1, 1, 1, 1, 1, 1, 1, 1, 1, 1, 1, 1, 1]) (mkSt (skU 1 ((.ptr 0 64 0 []) :: skU 8 ((.int .i64 t10) :: skU 1 ((.int .i64 t12) :: .nilp :: (.ptr 1 57 0 []) :: skU 1 ((.bool t16) :: skU 162 []))))) [(.box true 64 (.agg [(.sl 2 111 0 ae), (.bool af), (.bool ag), (.int .i64 ah), (.int .i64 ai), (.int .i64 aj)])), (.box true 57 (.agg [.nilp, .nilm, (.agg [(.int .u64 aa), (.int .i64 ab), (.int .i64 ac), (.int .u32 ad)]), (.int .i64 ak), (.int .u64 al), (.bool am)])), (.row true 111 x2)]) (onSt K) := by kernel_rfl
theorem Q4_21_ok : RestOk C4 (codeOf Try.f4 [1, 1, 1, 1, 1, 1, 1, 1, 1, 1, 1, 1, 1, 1, 1, 1, 1]) := RestOk.to (l := Q4_21) (by kernel_rfl) (by
    intro t bs K h0
    unfold Q4_21 at h0
    obtain ⟨r1, rfl, h1⟩ := skipU_inv h0
    obtain ⟨r3, rfl, h3⟩ := pI h1
    obtain ⟨r4, rfl, h4⟩ := skipU_inv h3
    obtain ⟨t10, r6, rfl, h6⟩ := iI h4
    obtain ⟨r7, rfl, h7⟩ := skipU_inv h6
    obtain ⟨t12, r9, rfl, h9⟩ := iI h7
    obtain ⟨r10, r11, rfl, h10⟩ := consK_inv h9
    obtain ⟨rfl, h11⟩ := nilpK_inv h10
    obtain ⟨r13, rfl, h13⟩ := pI h11
    obtain ⟨r14, rfl, h14⟩ := skipU_inv h13
    obtain ⟨t16, r16, rfl, h16⟩ := bI h14
    obtain ⟨r17, rfl, h17⟩ := skipU_inv h16
    obtain ⟨rfl, h18⟩ := nilK_inv h17
    obtain ⟨r21, r19, rfl, h21⟩ := bA h18
    obtain ⟨ae, r23, rfl, h23⟩ := zI h21
    obtain ⟨af, r25, rfl, h25⟩ := bI h23
    obtain ⟨ag, r27, rfl, h27⟩ := bI h25
    obtain ⟨ah, r29, rfl, h29⟩ := iI h27
    obtain ⟨ai, r31, rfl, h31⟩ := iI h29
    obtain ⟨aj, r33, rfl, h33⟩ := iI h31
    obtain ⟨rfl, h34⟩ := nilK_inv h33
    obtain ⟨r37, r35, rfl, h37⟩ := bA h34
    obtain ⟨r38, r39, rfl, h38⟩ := consK_inv h37
    obtain ⟨rfl, h39⟩ := nilpK_inv h38
    obtain ⟨r40, r41, rfl, h40⟩ := consK_inv h39
    obtain ⟨rfl, h41⟩ := nilmK_inv h40
    obtain ⟨r44, r43, rfl, h43⟩ := aI h41
    obtain ⟨aa, r46, rfl, h45⟩ := iI h43
    obtain ⟨ab, r48, rfl, h47⟩ := iI h45
    obtain ⟨ac, r50, rfl, h49⟩ := iI h47
    obtain ⟨ad, r52, rfl, h51⟩ := iI h49
    obtain ⟨rfl, h52⟩ := nilK_inv h51
    obtain ⟨ak, r54, rfl, h54⟩ := iI h52
    obtain ⟨al, r56, rfl, h56⟩ := iI h54
    obtain ⟨am, r58, rfl, h58⟩ := bI h56
    obtain ⟨rfl, h59⟩ := nilK_inv h58
    obtain ⟨x2, r60, rfl, h61⟩ := bR h59
    obtain ⟨rfl, h62⟩ := bNilK_inv h61
    have h := h62
    refine ⟨_, _, rfl, rfl, ?_⟩
    rw [← J4_21_eq t10 t12 t16 ae af ag ah ai aj aa ab ac ad ak al am x2 K]
    exact h)
theorem J4_20_eq (t10 : Int) (t12 : Int) (t16 : Bool) (ae : Nat) (af : Bool) (ag : Bool) (ah : Int) (ai : Int) (aj : Int) (aa : Int) (ab : Int) (ac : Int) (ad : Int) (ak : Int) (al : Int) (am : Bool) (x2 : List PV) (K : Ex → List PV → List Blk → Prop) : J4_20 t10 t12 t16 ae af ag ah ai aj aa ab ac ad ak al am x2 (fun z0 => K .ret ((.bool z0) :: skU 178 []) []) = evC C4 (codeOf Try.f4 [1, 1, 1, 1, 1, 1, 1, 1, 1, 1, 1, 1, 1, 1, 1, 1]) (mkSt (skU 1 ((.ptr 0 64 0 []) :: skU 8 ((.int .i64 t10) :: skU 1 ((.int .i64 t12) :: .nilp :: (.ptr 1 57 0 []) :: skU 1 ((.bool t16) :: skU 162 []))))) [(.box true 64 (.agg [(.sl 2 111 0 ae), (.bool af), (.bool ag), (.int .i64 ah), (.int .i64 ai), (.int .i64 aj)])), (.box true 57 (.agg [.nilp, .nilm, (.agg [(.int .u64 aa), (.int .i64 ab), (.int .i64 ac), (.int .u32 ad)]), (.int .i64 ak), (.int .u64 al), (.bool am)])), (.row true 111 x2)]) (onSt K) := by kernel_rfl
theorem Q4_20_ok : RestOk C4 (codeOf Try.f4 [1, 1, 1, 1, 1, 1, 1, 1, 1, 1, 1, 1, 1, 1, 1, 1]) := RestOk.to (l := Q4_20) (by kernel_rfl) (by
    intro t bs K h0
    unfold Q4_20 at h0
    obtain ⟨r1, rfl, h1⟩ := skipU_inv h0
    obtain ⟨r3, rfl, h3⟩ := pI h1
    obtain ⟨r4, rfl, h4⟩ := skipU_inv h3
    obtain ⟨t10, r6, rfl, h6⟩ := iI h4
    obtain ⟨r7, rfl, h7⟩ := skipU_inv h6
    obtain ⟨t12, r9, rfl, h9⟩ := iI h7
    obtain ⟨r10, r11, rfl, h10⟩ := consK_inv h9
    obtain ⟨rfl, h11⟩ := nilpK_inv h10
    obtain ⟨r13, rfl, h13⟩ := pI h11
    obtain ⟨r14, rfl, h14⟩ := skipU_inv h13
    obtain ⟨t16, r16, rfl, h16⟩ := bI h14
    obtain ⟨r17, rfl, h17⟩ := skipU_inv h16
    obtain ⟨rfl, h18⟩ := nilK_inv h17
    obtain ⟨r21, r19, rfl, h21⟩ := bA h18
    obtain ⟨ae, r23, rfl, h23⟩ := zI h21
    obtain ⟨af, r25, rfl, h25⟩ := bI h23
    obtain ⟨ag, r27, rfl, h27⟩ := bI h25
    obtain ⟨ah, r29, rfl, h29⟩ := iI h27
    obtain ⟨ai, r31, rfl, h31⟩ := iI h29
    obtain ⟨aj, r33, rfl, h33⟩ := iI h31
    obtain ⟨rfl, h34⟩ := nilK_inv h33
    obtain ⟨r37, r35, rfl, h37⟩ := bA h34
    obtain ⟨r38, r39, rfl, h38⟩ := consK_inv h37
    obtain ⟨rfl, h39⟩ := nilpK_inv h38
    obtain ⟨r40, r41, rfl, h40⟩ := consK_inv h39
    obtain ⟨rfl, h41⟩ := nilmK_inv h40
    obtain ⟨r44, r43, rfl, h43⟩ := aI h41
    obtain ⟨aa, r46, rfl, h45⟩ := iI h43
    obtain ⟨ab, r48, rfl, h47⟩ := iI h45
    obtain ⟨ac, r50, rfl, h49⟩ := iI h47
    obtain ⟨ad, r52, rfl, h51⟩ := iI h49
    obtain ⟨rfl, h52⟩ := nilK_inv h51
    obtain ⟨ak, r54, rfl, h54⟩ := iI h52
    obtain ⟨al, r56, rfl, h56⟩ := iI h54
    obtain ⟨am, r58, rfl, h58⟩ := bI h56
    obtain ⟨rfl, h59⟩ := nilK_inv h58
    obtain ⟨x2, r60, rfl, h61⟩ := bR h59
    obtain ⟨rfl, h62⟩ := bNilK_inv h61
    have h := h62
    refine ⟨_, _, rfl, rfl, ?_⟩
    rw [← J4_20_eq t10 t12 t16 ae af ag ah ai aj aa ab ac ad ak al am x2 K]
    exact h)
theorem J4_19_eq (t10 : Int) (t12 : Int) (ae : Nat) (af : Bool) (ag : Bool) (ah : Int) (ai : Int) (aj : Int) (aa : Int) (ab : Int) (ac : Int) (ad : Int) (ak : Int) (al : Int) (am : Bool) (x2 : List PV) (K : Ex → List PV → List Blk → Prop) : J4_19 t10 t12 ae af ag ah ai aj aa ab ac ad ak al am x2 (fun z0 => K .ret ((.bool z0) :: skU 178 []) []) = evC C4 (codeOf Try.f4 [1, 1, 1, 1, 1, 1, 1, 1, 1, 1, 1, 1, 1, 1, 1]) (mkSt (skU 1 ((.ptr 0 64 0 []) :: skU 8 ((.int .i64 t10) :: skU 1 ((.int .i64 t12) :: .nilp :: (.ptr 1 57 0 []) :: skU 164 [])))) [(.box true 64 (.agg [(.sl 2 111 0 ae), (.bool af), (.bool ag), (.int .i64 ah), (.int .i64 ai), (.int .i64 aj)])), (.box true 57 (.agg [.nilp, .nilm, (.agg [(.int .u64 aa), (.int .i64 ab), (.int .i64 ac), (.int .u32 ad)]), (.int .i64 ak), (.int .u64 al), (.bool am)])), (.row true 111 x2)]) (onSt K) := by kernel_rfl
theorem Q4_19_ok : RestOk C4 (codeOf Try.f4 [1, 1, 1, 1, 1, 1, 1, 1, 1, 1, 1, 1, 1, 1, 1]) := RestOk.to (l := Q4_19) (by kernel_rfl) (by
    intro t bs K h0
    unfold Q4_19 at h0
    obtain ⟨r1, rfl, h1⟩ := skipU_inv h0
    obtain ⟨r3, rfl, h3⟩ := pI h1
    obtain ⟨r4, rfl, h4⟩ := skipU_inv h3
    obtain ⟨t10, r6, rfl, h6⟩ := iI h4
    obtain ⟨r7, rfl, h7⟩ := skipU_inv h6
    obtain ⟨t12, r9, rfl, h9⟩ := iI h7
    obtain ⟨r10, r11, rfl, h10⟩ := consK_inv h9
    obtain ⟨rfl, h11⟩ := nilpK_inv h10
    obtain ⟨r13, rfl, h13⟩ := pI h11
    obtain ⟨r14, rfl, h14⟩ := skipU_inv h13
    obtain ⟨rfl, h15⟩ := nilK_inv h14
    obtain ⟨r18, r16, rfl, h18⟩ := bA h15
    obtain ⟨ae, r20, rfl, h20⟩ := zI h18
    obtain ⟨af, r22, rfl, h22⟩ := bI h20
    obtain ⟨ag, r24, rfl, h24⟩ := bI h22
    obtain ⟨ah, r26, rfl, h26⟩ := iI h24
    obtain ⟨ai, r28, rfl, h28⟩ := iI h26
    obtain ⟨aj, r30, rfl, h30⟩ := iI h28
    obtain ⟨rfl, h31⟩ := nilK_inv h30
    obtain ⟨r34, r32, rfl, h34⟩ := bA h31
    obtain ⟨r35, r36, rfl, h35⟩ := consK_inv h34
    obtain ⟨rfl, h36⟩ := nilpK_inv h35
    obtain ⟨r37, r38, rfl, h37⟩ := consK_inv h36
    obtain ⟨rfl, h38⟩ := nilmK_inv h37
    obtain ⟨r41, r40, rfl, h40⟩ := aI h38
    obtain ⟨aa, r43, rfl, h42⟩ := iI h40
    obtain ⟨ab, r45, rfl, h44⟩ := iI h42
    obtain ⟨ac, r47, rfl, h46⟩ := iI h44
    obtain ⟨ad, r49, rfl, h48⟩ := iI h46
    obtain ⟨rfl, h49⟩ := nilK_inv h48
    obtain ⟨ak, r51, rfl, h51⟩ := iI h49
    obtain ⟨al, r53, rfl, h53⟩ := iI h51
    obtain ⟨am, r55, rfl, h55⟩ := bI h53
    obtain ⟨rfl, h56⟩ := nilK_inv h55
    obtain ⟨x2, r57, rfl, h58⟩ := bR h56
    obtain ⟨rfl, h59⟩ := bNilK_inv h58
    have h := h59
    refine ⟨_, _, rfl, rfl, ?_⟩
    rw [← J4_19_eq t10 t12 ae af ag ah ai aj aa ab ac ad ak al am x2 K]
    exact h)
theorem J4_18_eq (t10 : Int) (t12 : Int) (aa : Nat) (ab : Bool) (ac : Bool) (ad : Int) (ae : Int) (af : Int) (x1 : List PV) (K : Ex → List PV → List Blk → Prop) : J4_18 t10 t12 aa ab ac ad ae af x1 (fun z0 => K .ret ((.bool z0) :: skU 178 []) []) = evC C4 (codeOf Try.f4 [1, 1, 1, 1, 1, 1, 1, 1, 1, 1, 1, 1, 1, 1]) (mkSt (skU 1 ((.ptr 0 64 0 []) :: skU 8 ((.int .i64 t10) :: skU 1 ((.int .i64 t12) :: .nilp :: skU 165 [])))) [(.box true 64 (.agg [(.sl 1 111 0 aa), (.bool ab), (.bool ac), (.int .i64 ad), (.int .i64 ae), (.int .i64 af)])), (.row true 111 x1)]) (onSt K) := by kernel_rfl
theorem Q4_18_ok : RestOk C4 (codeOf Try.f4 [1, 1, 1, 1, 1, 1, 1, 1, 1, 1, 1, 1, 1, 1]) := RestOk.to (l := Q4_18) (by kernel_rfl) (by
    intro t bs K h0
    unfold Q4_18 at h0
    obtain ⟨r1, rfl, h1⟩ := skipU_inv h0
    obtain ⟨r3, rfl, h3⟩ := pI h1
    obtain ⟨r4, rfl, h4⟩ := skipU_inv h3
    obtain ⟨t10, r6, rfl, h6⟩ := iI h4
    obtain ⟨r7, rfl, h7⟩ := skipU_inv h6
    obtain ⟨t12, r9, rfl, h9⟩ := iI h7
    obtain ⟨r10, r11, rfl, h10⟩ := consK_inv h9
    obtain ⟨rfl, h11⟩ := nilpK_inv h10
    obtain ⟨r12, rfl, h12⟩ := skipU_inv h11
    obtain ⟨rfl, h13⟩ := nilK_inv h12
    obtain ⟨r16, r14, rfl, h16⟩ := bA h13
    obtain ⟨aa, r18, rfl, h18⟩ := zI h16
    obtain ⟨ab, r20, rfl, h20⟩ := bI h18
    obtain ⟨ac, r22, rfl, h22⟩ := bI h20
    obtain ⟨ad, r24, rfl, h24⟩ := iI h22
    obtain ⟨ae, r26, rfl, h26⟩ := iI h24
    obtain ⟨af, r28, rfl, h28⟩ := iI h26
    obtain ⟨rfl, h29⟩ := nilK_inv h28
    obtain ⟨x1, r30, rfl, h31⟩ := bR h29
    obtain ⟨rfl, h32⟩ := bNilK_inv h31
    have h := h32
    refine ⟨_, _, rfl, rfl, ?_⟩
    rw [← J4_18_eq t10 t12 aa ab ac ad ae af x1 K]
    exact h)
theorem J4_17_eq (t10 : Int) (t12 : Int) (aa : Nat) (ab : Bool) (ac : Bool) (ad : Int) (ae : Int) (af : Int) (x1 : List PV) (K : Ex → List PV → List Blk → Prop) : J4_17 t10 t12 aa ab ac ad ae af x1 (fun z0 => K .ret ((.bool z0) :: skU 178 []) []) = evC C4 (codeOf Try.f4 [1, 1, 1, 1, 1, 1, 1, 1, 1, 1, 1, 1, 1]) (mkSt (skU 1 ((.ptr 0 64 0 []) :: skU 8 ((.int .i64 t10) :: skU 1 ((.int .i64 t12) :: skU 166 [])))) [(.box true 64 (.agg [(.sl 1 111 0 aa), (.bool ab), (.bool ac), (.int .i64 ad), (.int .i64 ae), (.int .i64 af)])), (.row true 111 x1)]) (onSt K) := by kernel_rfl
theorem Q4_17_ok : RestOk C4 (codeOf Try.f4 [1, 1, 1, 1, 1, 1, 1, 1, 1, 1, 1, 1, 1]) := RestOk.to (l := Q4_17) (by kernel_rfl) (by
    intro t bs K h0
    unfold Q4_17 at h0
    obtain ⟨r1, rfl, h1⟩ := skipU_inv h0
    obtain ⟨r3, rfl, h3⟩ := pI h1
    obtain ⟨r4, rfl, h4⟩ := skipU_inv h3
    obtain ⟨t10, r6, rfl, h6⟩ := iI h4
    obtain ⟨r7, rfl, h7⟩ := skipU_inv h6
    obtain ⟨t12, r9, rfl, h9⟩ := iI h7
    obtain ⟨r10, rfl, h10⟩ := skipU_inv h9
    obtain ⟨rfl, h11⟩ := nilK_inv h10
    obtain ⟨r14, r12, rfl, h14⟩ := bA h11
    obtain ⟨aa, r16, rfl, h16⟩ := zI h14
    obtain ⟨ab, r18, rfl, h18⟩ := bI h16
    obtain ⟨ac, r20, rfl, h20⟩ := bI h18
    obtain ⟨ad, r22, rfl, h22⟩ := iI h20
    obtain ⟨ae, r24, rfl, h24⟩ := iI h22
    obtain ⟨af, r26, rfl, h26⟩ := iI h24
    obtain ⟨rfl, h27⟩ := nilK_inv h26
    obtain ⟨x1, r28, rfl, h29⟩ := bR h27
    obtain ⟨rfl, h30⟩ := bNilK_inv h29
    have h := h30
    refine ⟨_, _, rfl, rfl, ?_⟩
    rw [← J4_17_eq t10 t12 aa ab ac ad ae af x1 K]
    exact h)
theorem J4_16_eq (t10 : Int) (aa : Nat) (ab : Bool) (ac : Bool) (ad : Int) (ae : Int) (af : Int) (x1 : List PV) (K : Ex → List PV → List Blk → Prop) : J4_16 t10 aa ab ac ad ae af x1 (fun z0 => K .ret ((.bool z0) :: skU 178 []) []) = evC C4 (codeOf Try.f4 [1, 1, 1, 1, 1, 1, 1, 1, 1, 1, 1, 1]) (mkSt (skU 1 ((.ptr 0 64 0 []) :: skU 8 ((.int .i64 t10) :: skU 168 []))) [(.box true 64 (.agg [(.sl 1 111 0 aa), (.bool ab), (.bool ac), (.int .i64 ad), (.int .i64 ae), (.int .i64 af)])), (.row true 111 x1)]) (onSt K) := by kernel_rfl
theorem Q4_16_ok : RestOk C4 (codeOf Try.f4 [1, 1, 1, 1, 1, 1, 1, 1, 1, 1, 1, 1]) := RestOk.to (l := Q4_16) (by kernel_rfl) (by
    intro t bs K h0
    unfold Q4_16 at h0
    obtain ⟨r1, rfl, h1⟩ := skipU_inv h0
    obtain ⟨r3, rfl, h3⟩ := pI h1
    obtain ⟨r4, rfl, h4⟩ := skipU_inv h3
    obtain ⟨t10, r6, rfl, h6⟩ := iI h4
    obtain ⟨r7, rfl, h7⟩ := skipU_inv h6
    obtain ⟨rfl, h8⟩ := nilK_inv h7
    obtain ⟨r11, r9, rfl, h11⟩ := bA h8
    obtain ⟨aa, r13, rfl, h13⟩ := zI h11
    obtain ⟨ab, r15, rfl, h15⟩ := bI h13
    obtain ⟨ac, r17, rfl, h17⟩ := bI h15
    obtain ⟨ad, r19, rfl, h19⟩ := iI h17
    obtain ⟨ae, r21, rfl, h21⟩ := iI h19
    obtain ⟨af, r23, rfl, h23⟩ := iI h21
    obtain ⟨rfl, h24⟩ := nilK_inv h23
    obtain ⟨x1, r25, rfl, h26⟩ := bR h24
    obtain ⟨rfl, h27⟩ := bNilK_inv h26
    have h := h27
    refine ⟨_, _, rfl, rfl, ?_⟩
    rw [← J4_16_eq t10 aa ab ac ad ae af x1 K]
    exact h)
theorem J4_14_eq (aa : Nat) (ab : Bool) (ac : Bool) (ad : Int) (ae : Int) (af : Int) (x1 : List PV) (K : Ex → List PV → List Blk → Prop) : J4_14 aa ab ac ad ae af x1 (fun z0 => K .ret ((.bool z0) :: skU 178 []) []) = evC C4 (codeOf Try.f4 [1, 1, 1, 1, 1, 1, 1, 1, 1, 1]) (mkSt (skU 1 ((.ptr 0 64 0 []) :: skU 177 [])) [(.box true 64 (.agg [(.sl 1 111 0 aa), (.bool ab), (.bool ac), (.int .i64 ad), (.int .i64 ae), (.int .i64 af)])), (.row true 111 x1)]) (onSt K) := by kernel_rfl
theorem Q4_14_ok : RestOk C4 (codeOf Try.f4 [1, 1, 1, 1, 1, 1, 1, 1, 1, 1]) := RestOk.to (l := Q4_14) (by kernel_rfl) (by
    intro t bs K h0
    unfold Q4_14 at h0
    obtain ⟨r1, rfl, h1⟩ := skipU_inv h0
    obtain ⟨r3, rfl, h3⟩ := pI h1
    obtain ⟨r4, rfl, h4⟩ := skipU_inv h3
    obtain ⟨rfl, h5⟩ := nilK_inv h4
    obtain ⟨r8, r6, rfl, h8⟩ := bA h5
    obtain ⟨aa, r10, rfl, h10⟩ := zI h8
    obtain ⟨ab, r12, rfl, h12⟩ := bI h10
    obtain ⟨ac, r14, rfl, h14⟩ := bI h12
    obtain ⟨ad, r16, rfl, h16⟩ := iI h14
    obtain ⟨ae, r18, rfl, h18⟩ := iI h16
    obtain ⟨af, r20, rfl, h20⟩ := iI h18
    obtain ⟨rfl, h21⟩ := nilK_inv h20
    obtain ⟨x1, r22, rfl, h23⟩ := bR h21
    obtain ⟨rfl, h24⟩ := bNilK_inv h23
    have h := h24
    refine ⟨_, _, rfl, rfl, ?_⟩
    rw [← J4_14_eq aa ab ac ad ae af x1 K]
    exact h)
theorem J4_12_eq (t5 : Int) (t6 : ByteArray) (ae : Nat) (af : Bool) (ag : Bool) (ah : Int) (ai : Int) (aj : Int) (aa : Int) (ab : Int) (ac : Int) (ad : Int) (ak : Int) (al : Int) (am : Bool) (x2 : List PV) (x3 : List PV) (K : Ex → List PV → List Blk → Prop) : J4_12 t5 t6 ae af ag ah ai aj aa ab ac ad ak al am x2 x3 (fun z0 => K .ret ((.bool z0) :: skU 178 []) []) = evC C4 (codeOf Try.f4 [1, 1, 1, 1, 1, 1, 1, 1, 1]) (mkSt (skU 1 ((.ptr 0 64 0 []) :: skU 1 ((.ptr 1 57 0 []) :: skU 1 ((.int .i64 t5) :: (.str t6) :: skU 172 [])))) [(.box true 64 (.agg [(.sl 2 111 0 ae), (.bool af), (.bool ag), (.int .i64 ah), (.int .i64 ai), (.int .i64 aj)])), (.box true 57 (.agg [(.ptr 0 64 0 []), (.mapr 3), (.agg [(.int .u64 aa), (.int .i64 ab), (.int .i64 ac), (.int .u32 ad)]), (.int .i64 ak), (.int .u64 al), (.bool am)])), (.row true 111 x2), (.map false 9 77 x3)]) (onSt K) := by kernel_rfl
theorem Q4_12_ok : RestOk C4 (codeOf Try.f4 [1, 1, 1, 1, 1, 1, 1, 1, 1]) := RestOk.to (l := Q4_12) (by kernel_rfl) (by
    intro t bs K h0
    unfold Q4_12 at h0
    obtain ⟨r1, rfl, h1⟩ := skipU_inv h0
    obtain ⟨r3, rfl, h3⟩ := pI h1
    obtain ⟨r4, rfl, h4⟩ := skipU_inv h3
    obtain ⟨r6, rfl, h6⟩ := pI h4
    obtain ⟨r7, rfl, h7⟩ := skipU_inv h6
    obtain ⟨t5, r9, rfl, h9⟩ := iI h7
    obtain ⟨t6, r11, rfl, h11⟩ := sI h9
    obtain ⟨r12, rfl, h12⟩ := skipU_inv h11
    obtain ⟨rfl, h13⟩ := nilK_inv h12
    obtain ⟨r16, r14, rfl, h16⟩ := bA h13
    obtain ⟨ae, r18, rfl, h18⟩ := zI h16
    obtain ⟨af, r20, rfl, h20⟩ := bI h18
    obtain ⟨ag, r22, rfl, h22⟩ := bI h20
    obtain ⟨ah, r24, rfl, h24⟩ := iI h22
    obtain ⟨ai, r26, rfl, h26⟩ := iI h24
    obtain ⟨aj, r28, rfl, h28⟩ := iI h26
    obtain ⟨rfl, h29⟩ := nilK_inv h28
    obtain ⟨r32, r30, rfl, h32⟩ := bA h29
    obtain ⟨r34, rfl, h34⟩ := pI h32
    obtain ⟨r36, rfl, h36⟩ := mI h34
    obtain ⟨r39, r38, rfl, h38⟩ := aI h36
    obtain ⟨aa, r41, rfl, h40⟩ := iI h38
    obtain ⟨ab, r43, rfl, h42⟩ := iI h40
    obtain ⟨ac, r45, rfl, h44⟩ := iI h42
    obtain ⟨ad, r47, rfl, h46⟩ := iI h44
    obtain ⟨rfl, h47⟩ := nilK_inv h46
    obtain ⟨ak, r49, rfl, h49⟩ := iI h47
    obtain ⟨al, r51, rfl, h51⟩ := iI h49
    obtain ⟨am, r53, rfl, h53⟩ := bI h51
    obtain ⟨rfl, h54⟩ := nilK_inv h53
    obtain ⟨x2, r55, rfl, h56⟩ := bR h54
    obtain ⟨x3, r57, rfl, h58⟩ := bM h56
    obtain ⟨rfl, h59⟩ := bNilK_inv h58
    have h := h59
    refine ⟨_, _, rfl, rfl, ?_⟩
    rw [← J4_12_eq t5 t6 ae af ag ah ai aj aa ab ac ad ak al am x2 x3 K]
    exact h)
theorem J4_11_eq (t5 : Int) (ae : Nat) (af : Bool) (ag : Bool) (ah : Int) (ai : Int) (aj : Int) (aa : Int) (ab : Int) (ac : Int) (ad : Int) (ak : Int) (al : Int) (am : Bool) (x2 : List PV) (x3 : List PV) (K : Ex → List PV → List Blk → Prop) : J4_11 t5 ae af ag ah ai aj aa ab ac ad ak al am x2 x3 (fun z0 => K .ret ((.bool z0) :: skU 178 []) []) = evC C4 (codeOf Try.f4 [1, 1, 1, 1, 1, 1, 1, 1]) (mkSt (skU 1 ((.ptr 0 64 0 []) :: skU 1 ((.ptr 1 57 0 []) :: skU 1 ((.int .i64 t5) :: skU 173 [])))) [(.box true 64 (.agg [(.sl 2 111 0 ae), (.bool af), (.bool ag), (.int .i64 ah), (.int .i64 ai), (.int .i64 aj)])), (.box true 57 (.agg [(.ptr 0 64 0 []), (.mapr 3), (.agg [(.int .u64 aa), (.int .i64 ab), (.int .i64 ac), (.int .u32 ad)]), (.int .i64 ak), (.int .u64 al), (.bool am)])), (.row true 111 x2), (.map false 9 77 x3)]) (onSt K) := by kernel_rfl
theorem Q4_11_ok : RestOk C4 (codeOf Try.f4 [1, 1, 1, 1, 1, 1, 1, 1]) := RestOk.to (l := Q4_11) (by kernel_rfl) (by
    intro t bs K h0
    unfold Q4_11 at h0
    obtain ⟨r1, rfl, h1⟩ := skipU_inv h0
    obtain ⟨r3, rfl, h3⟩ := pI h1
    obtain ⟨r4, rfl, h4⟩ := skipU_inv h3
    obtain ⟨r6, rfl, h6⟩ := pI h4
    obtain ⟨r7, rfl, h7⟩ := skipU_inv h6
    obtain ⟨t5, r9, rfl, h9⟩ := iI h7
    obtain ⟨r10, rfl, h10⟩ := skipU_inv h9
    obtain ⟨rfl, h11⟩ := nilK_inv h10
    obtain ⟨r14, r12, rfl, h14⟩ := bA h11
    obtain ⟨ae, r16, rfl, h16⟩ := zI h14
    obtain ⟨af, r18, rfl, h18⟩ := bI h16
    obtain ⟨ag, r20, rfl, h20⟩ := bI h18
    obtain ⟨ah, r22, rfl, h22⟩ := iI h20
    obtain ⟨ai, r24, rfl, h24⟩ := iI h22
    obtain ⟨aj, r26, rfl, h26⟩ := iI h24
    obtain ⟨rfl, h27⟩ := nilK_inv h26
    obtain ⟨r30, r28, rfl, h30⟩ := bA h27
    obtain ⟨r32, rfl, h32⟩ := pI h30
    obtain ⟨r34, rfl, h34⟩ := mI h32
    obtain ⟨r37, r36, rfl, h36⟩ := aI h34
    obtain ⟨aa, r39, rfl, h38⟩ := iI h36
    obtain ⟨ab, r41, rfl, h40⟩ := iI h38
    obtain ⟨ac, r43, rfl, h42⟩ := iI h40
    obtain ⟨ad, r45, rfl, h44⟩ := iI h42
    obtain ⟨rfl, h45⟩ := nilK_inv h44
    obtain ⟨ak, r47, rfl, h47⟩ := iI h45
    obtain ⟨al, r49, rfl, h49⟩ := iI h47
    obtain ⟨am, r51, rfl, h51⟩ := bI h49
    obtain ⟨rfl, h52⟩ := nilK_inv h51
    obtain ⟨x2, r53, rfl, h54⟩ := bR h52
    obtain ⟨x3, r55, rfl, h56⟩ := bM h54
    obtain ⟨rfl, h57⟩ := bNilK_inv h56
    have h := h57
    refine ⟨_, _, rfl, rfl, ?_⟩
    rw [← J4_11_eq t5 ae af ag ah ai aj aa ab ac ad ak al am x2 x3 K]
    exact h)
theorem J4_10_eq (ae : Nat) (af : Bool) (ag : Bool) (ah : Int) (ai : Int) (aj : Int) (aa : Int) (ab : Int) (ac : Int) (ad : Int) (ak : Int) (al : Int) (am : Bool) (x2 : List PV) (x3 : List PV) (K : Ex → List PV → List Blk → Prop) : J4_10 ae af ag ah ai aj aa ab ac ad ak al am x2 x3 (fun z0 => K .ret ((.bool z0) :: skU 178 []) []) = evC C4 (codeOf Try.f4 [1, 1, 1, 1, 1, 1, 1]) (mkSt (skU 1 ((.ptr 0 64 0 []) :: skU 1 ((.ptr 1 57 0 []) :: skU 175 []))) [(.box true 64 (.agg [(.sl 2 111 0 ae), (.bool af), (.bool ag), (.int .i64 ah), (.int .i64 ai), (.int .i64 aj)])), (.box true 57 (.agg [(.ptr 0 64 0 []), (.mapr 3), (.agg [(.int .u64 aa), (.int .i64 ab), (.int .i64 ac), (.int .u32 ad)]), (.int .i64 ak), (.int .u64 al), (.bool am)])), (.row true 111 x2), (.map false 9 77 x3)]) (onSt K) := by kernel_rfl
theorem Q4_10_ok : RestOk C4 (codeOf Try.f4 [1, 1, 1, 1, 1, 1, 1]) := RestOk.to (l := Q4_10) (by kernel_rfl) (by
    intro t bs K h0
    unfold Q4_10 at h0
    obtain ⟨r1, rfl, h1⟩ := skipU_inv h0
    obtain ⟨r3, rfl, h3⟩ := pI h1
    obtain ⟨r4, rfl, h4⟩ := skipU_inv h3
    obtain ⟨r6, rfl, h6⟩ := pI h4
    obtain ⟨r7, rfl, h7⟩ := skipU_inv h6
    obtain ⟨rfl, h8⟩ := nilK_inv h7
    obtain ⟨r11, r9, rfl, h11⟩ := bA h8
    obtain ⟨ae, r13, rfl, h13⟩ := zI h11
    obtain ⟨af, r15, rfl, h15⟩ := bI h13
    obtain ⟨ag, r17, rfl, h17⟩ := bI h15
    obtain ⟨ah, r19, rfl, h19⟩ := iI h17
    obtain ⟨ai, r21, rfl, h21⟩ := iI h19
    obtain ⟨aj, r23, rfl, h23⟩ := iI h21
    obtain ⟨rfl, h24⟩ := nilK_inv h23
    obtain ⟨r27, r25, rfl, h27⟩ := bA h24
    obtain ⟨r29, rfl, h29⟩ := pI h27
    obtain ⟨r31, rfl, h31⟩ := mI h29
    obtain ⟨r34, r33, rfl, h33⟩ := aI h31
    obtain ⟨aa, r36, rfl, h35⟩ := iI h33
    obtain ⟨ab, r38, rfl, h37⟩ := iI h35
    obtain ⟨ac, r40, rfl, h39⟩ := iI h37
    obtain ⟨ad, r42, rfl, h41⟩ := iI h39
    obtain ⟨rfl, h42⟩ := nilK_inv h41
    obtain ⟨ak, r44, rfl, h44⟩ := iI h42
    obtain ⟨al, r46, rfl, h46⟩ := iI h44
    obtain ⟨am, r48, rfl, h48⟩ := bI h46
    obtain ⟨rfl, h49⟩ := nilK_inv h48
    obtain ⟨x2, r50, rfl, h51⟩ := bR h49
    obtain ⟨x3, r52, rfl, h53⟩ := bM h51
    obtain ⟨rfl, h54⟩ := bNilK_inv h53
    have h := h54
    refine ⟨_, _, rfl, rfl, ?_⟩
    rw [← J4_10_eq ae af ag ah ai aj aa ab ac ad ak al am x2 x3 K]
    exact h)
theorem J4_7_eq (aa : Nat) (ab : Bool) (ac : Bool) (ad : Int) (ae : Int) (af : Int) (x1 : List PV) (K : Ex → List PV → List Blk → Prop) : J4_7 aa ab ac ad ae af x1 (fun z0 => K .ret ((.bool z0) :: skU 178 []) []) = evC C4 (codeOf Try.f4 [1, 1, 1, 1, 1]) (mkSt (skU 1 ((.ptr 0 64 0 []) :: skU 177 [])) [(.box true 64 (.agg [(.sl 1 111 0 aa), (.bool ab), (.bool ac), (.int .i64 ad), (.int .i64 ae), (.int .i64 af)])), (.row true 111 x1)]) (onSt K) := by kernel_rfl
theorem Q4_7_ok : RestOk C4 (codeOf Try.f4 [1, 1, 1, 1, 1]) := RestOk.to (l := Q4_7) (by kernel_rfl) (by
    intro t bs K h0
    unfold Q4_7 at h0
    obtain ⟨r1, rfl, h1⟩ := skipU_inv h0
    obtain ⟨r3, rfl, h3⟩ := pI h1
    obtain ⟨r4, rfl, h4⟩ := skipU_inv h3
    obtain ⟨rfl, h5⟩ := nilK_inv h4
    obtain ⟨r8, r6, rfl, h8⟩ := bA h5
    obtain ⟨aa, r10, rfl, h10⟩ := zI h8
    obtain ⟨ab, r12, rfl, h12⟩ := bI h10
    obtain ⟨ac, r14, rfl, h14⟩ := bI h12
    obtain ⟨ad, r16, rfl, h16⟩ := iI h14
    obtain ⟨ae, r18, rfl, h18⟩ := iI h16
    obtain ⟨af, r20, rfl, h20⟩ := iI h18
    obtain ⟨rfl, h21⟩ := nilK_inv h20
    obtain ⟨x1, r22, rfl, h23⟩ := bR h21
    obtain ⟨rfl, h24⟩ := bNilK_inv h23
    have h := h24
    refine ⟨_, _, rfl, rfl, ?_⟩
    rw [← J4_7_eq aa ab ac ad ae af x1 K]
    exact h)
theorem J4_5_eq (ae : Nat) (af : Bool) (ag : Bool) (ah : Int) (ai : Int) (aj : Int) (aa : Int) (ab : Int) (ac : Int) (ad : Int) (ak : Int) (al : Int) (am : Bool) (x2 : List PV) (x3 : List PV) (K : Ex → List PV → List Blk → Prop) : J4_5 ae af ag ah ai aj aa ab ac ad ak al am x2 x3 (fun z0 => K .ret ((.bool z0) :: skU 178 []) []) = evC C4 (codeOf Try.f4 [1, 1, 1, 1]) (mkSt (skU 1 ((.ptr 0 64 0 []) :: (.ptr 1 57 0 []) :: skU 176 [])) [(.box true 64 (.agg [(.sl 2 111 0 ae), (.bool af), (.bool ag), (.int .i64 ah), (.int .i64 ai), (.int .i64 aj)])), (.box true 57 (.agg [(.ptr 0 64 0 []), (.mapr 3), (.agg [(.int .u64 aa), (.int .i64 ab), (.int .i64 ac), (.int .u32 ad)]), (.int .i64 ak), (.int .u64 al), (.bool am)])), (.row true 111 x2), (.map false 9 77 x3)]) (onSt K) := by kernel_rfl
theorem Q4_5_ok : RestOk C4 (codeOf Try.f4 [1, 1, 1, 1]) := RestOk.to (l := Q4_5) (by kernel_rfl) (by
    intro t bs K h0
    unfold Q4_5 at h0
    obtain ⟨r1, rfl, h1⟩ := skipU_inv h0
    obtain ⟨r3, rfl, h3⟩ := pI h1
    obtain ⟨r5, rfl, h5⟩ := pI h3
    obtain ⟨r6, rfl, h6⟩ := skipU_inv h5
    obtain ⟨rfl, h7⟩ := nilK_inv h6
    obtain ⟨r10, r8, rfl, h10⟩ := bA h7
    obtain ⟨ae, r12, rfl, h12⟩ := zI h10
    obtain ⟨af, r14, rfl, h14⟩ := bI h12
    obtain ⟨ag, r16, rfl, h16⟩ := bI h14
    obtain ⟨ah, r18, rfl, h18⟩ := iI h16
    obtain ⟨ai, r20, rfl, h20⟩ := iI h18
    obtain ⟨aj, r22, rfl, h22⟩ := iI h20
    obtain ⟨rfl, h23⟩ := nilK_inv h22
    obtain ⟨r26, r24, rfl, h26⟩ := bA h23
    obtain ⟨r28, rfl, h28⟩ := pI h26
    obtain ⟨r30, rfl, h30⟩ := mI h28
    obtain ⟨r33, r32, rfl, h32⟩ := aI h30
    obtain ⟨aa, r35, rfl, h34⟩ := iI h32
    obtain ⟨ab, r37, rfl, h36⟩ := iI h34
    obtain ⟨ac, r39, rfl, h38⟩ := iI h36
    obtain ⟨ad, r41, rfl, h40⟩ := iI h38
    obtain ⟨rfl, h41⟩ := nilK_inv h40
    obtain ⟨ak, r43, rfl, h43⟩ := iI h41
    obtain ⟨al, r45, rfl, h45⟩ := iI h43
    obtain ⟨am, r47, rfl, h47⟩ := bI h45
    obtain ⟨rfl, h48⟩ := nilK_inv h47
    obtain ⟨x2, r49, rfl, h50⟩ := bR h48
    obtain ⟨x3, r51, rfl, h52⟩ := bM h50
    obtain ⟨rfl, h53⟩ := bNilK_inv h52
    have h := h53
    refine ⟨_, _, rfl, rfl, ?_⟩
    rw [← J4_5_eq ae af ag ah ai aj aa ab ac ad ak al am x2 x3 K]
    exact h)
theorem J4_4_eq (ae : Nat) (af : Bool) (ag : Bool) (ah : Int) (ai : Int) (aj : Int) (aa : Int) (ab : Int) (ac : Int) (ad : Int) (ak : Int) (al : Int) (am : Bool) (x2 : List PV) (x3 : List PV) (K : Ex → List PV → List Blk → Prop) : J4_4 ae af ag ah ai aj aa ab ac ad ak al am x2 x3 (fun z0 => K .ret ((.bool z0) :: skU 178 []) []) = evC C4 (codeOf Try.f4 [1, 1, 1]) (mkSt (skU 1 ((.ptr 0 64 0 []) :: (.ptr 1 57 0 []) :: skU 176 [])) [(.box true 64 (.agg [(.sl 2 111 0 ae), (.bool af), (.bool ag), (.int .i64 ah), (.int .i64 ai), (.int .i64 aj)])), (.box true 57 (.agg [(.ptr 0 64 0 []), (.mapr 3), (.agg [(.int .u64 aa), (.int .i64 ab), (.int .i64 ac), (.int .u32 ad)]), (.int .i64 ak), (.int .u64 al), (.bool am)])), (.row true 111 x2), (.map false 9 77 x3)]) (onSt K) := by kernel_rfl
theorem Q4_4_ok : RestOk C4 (codeOf Try.f4 [1, 1, 1]) := RestOk.to (l := Q4_4) (by kernel_rfl) (by
    intro t bs K h0
    unfold Q4_4 at h0
    obtain ⟨r1, rfl, h1⟩ := skipU_inv h0
    obtain ⟨r3, rfl, h3⟩ := pI h1
    obtain ⟨r5, rfl, h5⟩ := pI h3
    obtain ⟨r6, rfl, h6⟩ := skipU_inv h5
    obtain ⟨rfl, h7⟩ := nilK_inv h6
    obtain ⟨r10, r8, rfl, h10⟩ := bA h7
    obtain ⟨ae, r12, rfl, h12⟩ := zI h10
    obtain ⟨af, r14, rfl, h14⟩ := bI h12
    obtain ⟨ag, r16, rfl, h16⟩ := bI h14
    obtain ⟨ah, r18, rfl, h18⟩ := iI h16
    obtain ⟨ai, r20, rfl, h20⟩ := iI h18
    obtain ⟨aj, r22, rfl, h22⟩ := iI h20
    obtain ⟨rfl, h23⟩ := nilK_inv h22
    obtain ⟨r26, r24, rfl, h26⟩ := bA h23
    obtain ⟨r28, rfl, h28⟩ := pI h26
    obtain ⟨r30, rfl, h30⟩ := mI h28
    obtain ⟨r33, r32, rfl, h32⟩ := aI h30
    obtain ⟨aa, r35, rfl, h34⟩ := iI h32
    obtain ⟨ab, r37, rfl, h36⟩ := iI h34
    obtain ⟨ac, r39, rfl, h38⟩ := iI h36
    obtain ⟨ad, r41, rfl, h40⟩ := iI h38
    obtain ⟨rfl, h41⟩ := nilK_inv h40
    obtain ⟨ak, r43, rfl, h43⟩ := iI h41
    obtain ⟨al, r45, rfl, h45⟩ := iI h43
    obtain ⟨am, r47, rfl, h47⟩ := bI h45
    obtain ⟨rfl, h48⟩ := nilK_inv h47
    obtain ⟨x2, r49, rfl, h50⟩ := bR h48
    obtain ⟨x3, r51, rfl, h52⟩ := bM h50
    obtain ⟨rfl, h53⟩ := bNilK_inv h52
    have h := h53
    refine ⟨_, _, rfl, rfl, ?_⟩
    rw [← J4_4_eq ae af ag ah ai aj aa ab ac ad ak al am x2 x3 K]
    exact h)
theorem J4_1_eq (K : Ex → List PV → List Blk → Prop) : J4_1  (fun z0 => K .ret ((.bool z0) :: skU 178 []) []) = evC C4 (codeOf Try.f4 [1]) (mkSt (skU 179 []) []) (onSt K) := by kernel_rfl
theorem Q4_1_ok : RestOk C4 (codeOf Try.f4 [1]) := RestOk.to (l := Q4_1) (by kernel_rfl) (by
    intro t bs K h0
    unfold Q4_1 at h0
    obtain ⟨r1, rfl, h1⟩ := skipU_inv h0
    obtain ⟨rfl, h2⟩ := nilK_inv h1
    obtain ⟨rfl, h3⟩ := bNilK_inv h2
    have h := h3
    refine ⟨_, _, rfl, rfl, ?_⟩
    rw [← J4_1_eq  K]
    exact h)
theorem B4_eq (K : List Blk → List PV → Prop) : evF C4 Try.f4 [] [] K = (([] : List Blk).length = 0 ∧ B4  (fun z0 => K [] [(.bool z0)])) := by kernel_rfl
theorem W4_of (hT : AllSound Try.prog pvT pvG T4) : Sound Try.prog pvT pvG 4 W4 := Sound.weak (evF_sound (C := C4) (Base.of pvT_fits pvT_sized pvT_eq hT pvMixed pvIt_ok) Try.func4 (LoopsOk.of (C := C4) (fn := Try.f4) (l := []) (r := [codeOf Try.f4 [1], codeOf Try.f4 [1, 1], codeOf Try.f4 [1, 1, 1], codeOf Try.f4 [1, 1, 0, 1], codeOf Try.f4 [1, 1, 0, 1, 0, 1], codeOf Try.f4 [1, 1, 1, 1], codeOf Try.f4 [1, 1, 1, 1, 1], codeOf Try.f4 [1, 1, 1, 1, 0, 1], codeOf Try.f4 [1, 1, 1, 1, 0, 1, 0, 1], codeOf Try.f4 [1, 1, 1, 1, 1, 1], codeOf Try.f4 [1, 1, 1, 1, 1, 1, 1], codeOf Try.f4 [1, 1, 1, 1, 1, 1, 0, 1], codeOf Try.f4 [1, 1, 1, 1, 1, 1, 0, 1, 0, 1], codeOf Try.f4 [1, 1, 1, 1, 1, 1, 1, 1], codeOf Try.f4 [1, 1, 1, 1, 1, 1, 1, 1, 1], codeOf Try.f4 [1, 1, 1, 1, 1, 1, 1, 1, 1, 1], codeOf Try.f4 [1, 1, 1, 1, 1, 1, 1, 1, 1, 0, 1], codeOf Try.f4 [1, 1, 1, 1, 1, 1, 1, 1, 1, 0, 1, 0, 1], codeOf Try.f4 [1, 1, 1, 1, 1, 1, 1, 1, 1, 1, 1], codeOf Try.f4 [1, 1, 1, 1, 1, 1, 1, 1, 1, 1, 1, 1], codeOf Try.f4 [1, 1, 1, 1, 1, 1, 1, 1, 1, 1, 1, 1, 1], codeOf Try.f4 [1, 1, 1, 1, 1, 1, 1, 1, 1, 1, 1, 1, 1, 1], codeOf Try.f4 [1, 1, 1, 1, 1, 1, 1, 1, 1, 1, 1, 1, 1, 1, 1], codeOf Try.f4 [1, 1, 1, 1, 1, 1, 1, 1, 1, 1, 1, 1, 1, 1, 1, 1], codeOf Try.f4 [1, 1, 1, 1, 1, 1, 1, 1, 1, 1, 1, 1, 1, 1, 1, 1, 1], codeOf Try.f4 [1, 1, 1, 1, 1, 1, 1, 1, 1, 1, 1, 1, 1, 1, 1, 1, 1, 1], codeOf Try.f4 [1, 1, 1, 1, 1, 1, 1, 1, 1, 1, 1, 1, 1, 1, 1, 1, 1, 1, 1], codeOf Try.f4 [1, 1, 1, 1, 1, 1, 1, 1, 1, 1, 1, 1, 1, 1, 1, 1, 1, 1, 1, 1]]) (g := []) (by kernel_rfl) (by kernel_rfl) (by kernel_rfl) trivial ⟨Q4_1_ok, ⟨(RestOk.none (by kernel_rfl)), ⟨Q4_4_ok, ⟨(RestOk.none (by kernel_rfl)), ⟨(RestOk.none (by kernel_rfl)), ⟨Q4_5_ok, ⟨Q4_7_ok, ⟨(RestOk.none (by kernel_rfl)), ⟨(RestOk.none (by kernel_rfl)), ⟨(RestOk.none (by kernel_rfl)), ⟨Q4_10_ok, ⟨(RestOk.none (by kernel_rfl)), ⟨(RestOk.none (by kernel_rfl)), ⟨Q4_11_ok, ⟨Q4_12_ok, ⟨Q4_14_ok, ⟨(RestOk.none (by kernel_rfl)), ⟨(RestOk.none (by kernel_rfl)), ⟨(RestOk.none (by kernel_rfl)), ⟨Q4_16_ok, ⟨Q4_17_ok, ⟨Q4_18_ok, ⟨Q4_19_ok, ⟨Q4_20_ok, ⟨Q4_21_ok, ⟨Q4_22_ok, ⟨Q4_23_ok, ⟨(RestOk.none (by kernel_rfl)), trivial⟩⟩⟩⟩⟩⟩⟩⟩⟩⟩⟩⟩⟩⟩⟩⟩⟩⟩⟩⟩⟩⟩⟩⟩⟩⟩⟩⟩ trivial) (evF_to (C := C4) (fun bs t K h0 => by
    unfold P4 at h0
    obtain ⟨rfl, h1⟩ := nilK_inv h0
    obtain ⟨rfl, h2⟩ := bNilK_inv h1
    have h := h2
    refine ⟨_, _, rfl, rfl, ?_⟩
    rw [B4_eq  K]
    exact ⟨rfl, h⟩))) _
end Pv
