/- A part of the proof: Crc. No conditions of its own beyond those that its theorems name. -/
import Derived.Test.YtmaahlifffjeoaaFh
import Derived.Test.YtmaahlifffjeoaaProg
import Derived.KernelRfl
namespace Pv
open Go Go.Proofs

def pvT : Tab := [⟨.other, 0, 0, .undef, false⟩,
  ⟨.func, 1, 8, .nilf, false⟩,
  ⟨.int .i64, 1, 8, (.int .i64 0), false⟩,
  ⟨.int .i64, 1, 8, (.int .i64 0), false⟩,
  ⟨.bool, 1, 1, (.bool false), false⟩,
  ⟨.int .u8, 1, 1, (.int .u8 0), false⟩,
  ⟨.int .u8, 1, 1, (.int .u8 0), false⟩,
  ⟨.struct [(0, 2), (1, 3), (2, 4), (3, 6)], 4, 24, (.agg [(.int .i64 0), (.int .i64 0), (.bool false), (.int .u8 0)]), false⟩,
  ⟨.struct [(0, 2), (1, 3), (2, 4), (3, 6)], 4, 24, (.agg [(.int .i64 0), (.int .i64 0), (.bool false), (.int .u8 0)]), false⟩,
  ⟨.str, 1, 16, (.str .empty), false⟩,
  ⟨.str, 1, 16, (.str .empty), false⟩,
  ⟨.str, 1, 16, (.str .empty), false⟩,
  ⟨.int .u64, 1, 8, (.int .u64 0), false⟩,
  ⟨.struct [(0, 9), (1, 12)], 2, 24, (.agg [(.str .empty), (.int .u64 0)]), false⟩,
  ⟨.struct [(0, 9), (1, 12)], 2, 24, (.agg [(.str .empty), (.int .u64 0)]), false⟩,
  ⟨.ptr 45, 1, 8, .nilp, false⟩,
  ⟨.ptr 48, 1, 8, .nilp, false⟩,
  ⟨.ptr 57, 1, 8, .nilp, false⟩,
  ⟨.struct [(0, 17)], 1, 8, (.agg [.nilp]), false⟩,
  ⟨.struct [(0, 17)], 1, 8, (.agg [.nilp]), false⟩,
  ⟨.other, 0, 0, .undef, false⟩,
  ⟨.int .i32, 1, 4, (.int .i32 0), false⟩,
  ⟨.slice 5, 1, 24, .nilsl, false⟩,
  ⟨.func, 1, 8, .nilf, false⟩,
  ⟨.int .u32, 1, 4, (.int .u32 0), false⟩,
  ⟨.func, 1, 8, .nilf, false⟩,
  ⟨.func, 1, 8, .nilf, false⟩,
  ⟨.func, 1, 8, .nilf, false⟩,
  ⟨.func, 1, 8, .nilf, false⟩,
  ⟨.other, 0, 0, .undef, false⟩,
  ⟨.func, 1, 8, .nilf, false⟩,
  ⟨.func, 1, 8, .nilf, false⟩,
  ⟨.int .u16, 1, 2, (.int .u16 0), false⟩,
  ⟨.int .u64, 1, 8, (.int .u64 0), false⟩,
  ⟨.func, 1, 8, .nilf, false⟩,
  ⟨.array 2 32, 2, 4, (.arr 2 (List.replicate 2 (.int .u16 0))), false⟩,
  ⟨.func, 1, 8, .nilf, false⟩,
  ⟨.func, 1, 8, .nilf, false⟩,
  ⟨.slice 4, 1, 24, .nilsl, false⟩,
  ⟨.func, 1, 8, .nilf, false⟩,
  ⟨.func, 1, 8, .nilf, false⟩,
  ⟨.func, 1, 8, .nilf, false⟩,
  ⟨.slice 3, 1, 24, .nilsl, false⟩,
  ⟨.func, 1, 8, .nilf, false⟩,
  ⟨.struct [(0, 17), (1, 17), (2, 17), (3, 9)], 4, 40, (.agg [.nilp, .nilp, .nilp, (.str .empty)]), false⟩,
  ⟨.struct [(0, 17), (1, 17), (2, 17), (3, 9)], 4, 40, (.agg [.nilp, .nilp, .nilp, (.str .empty)]), false⟩,
  ⟨.array 0 16, 0, 0, (.arr 0 (List.replicate 0 .nilp)), false⟩,
  ⟨.struct [(0, 46)], 0, 0, (.agg [(.arr 0 (List.replicate 0 .nilp))]), false⟩,
  ⟨.struct [(0, 46)], 0, 0, (.agg [(.arr 0 (List.replicate 0 .nilp))]), false⟩,
  ⟨.func, 1, 8, .nilf, false⟩,
  ⟨.int .u8, 1, 1, (.int .u8 0), false⟩,
  ⟨.int .u8, 1, 1, (.int .u8 0), false⟩,
  ⟨.func, 1, 8, .nilf, false⟩,
  ⟨.ptr 5, 1, 8, .nilp, false⟩,
  ⟨.int .i32, 1, 4, (.int .i32 0), false⟩,
  ⟨.int .i32, 1, 4, (.int .i32 0), false⟩,
  ⟨.struct [(0, 12), (1, 12), (2, 24), (3, 50), (4, 5), (5, 5), (6, 51), (7, 52), (8, 53), (9, 54), (10, 55)], 11, 48, (.agg [(.int .u64 0), (.int .u64 0), (.int .u32 0), (.int .u8 0), (.int .u8 0), (.int .u8 0), (.int .u8 0), .nilf, .nilp, (.int .i32 0), (.int .i32 0)]), false⟩,
  ⟨.struct [(0, 12), (1, 12), (2, 24), (3, 50), (4, 5), (5, 5), (6, 51), (7, 52), (8, 53), (9, 54), (10, 55)], 11, 48, (.agg [(.int .u64 0), (.int .u64 0), (.int .u32 0), (.int .u8 0), (.int .u8 0), (.int .u8 0), (.int .u8 0), .nilf, .nilp, (.int .i32 0), (.int .i32 0)]), false⟩,
  ⟨.other, 0, 0, .undef, false⟩]
def pvG : Globs := fun _ => none
def pvRef : FuncId → Nat → Bool := fun f i => cond (Nat.beq f 19 && Nat.beq i 0) true (false)
theorem pvT_fits : tabFits Try.prog pvT 0 pvT = true := by kernel_rfl
theorem pvT_sized : tabSized pvT = true := by kernel_rfl
theorem pvT_eq : EqSound Try.prog pvT := EqSound.none (by kernel_rfl)
theorem pvMixed : Try.prog.follows .mixedOrders = true := by kernel_rfl
def B9 (b0 : List PV) (k0 : List PV → Prop) : Prop :=
  0 ≤ (0 : Int) ∧ (0 : Int) ≤ (if (1000 : Int) < (Int.ofNat (List.length (α := PV) b0)) then 1000 else (Int.ofNat (List.length (α := PV) b0))) ∧ (if (1000 : Int) < (Int.ofNat (List.length (α := PV) b0)) then 1000 else (Int.ofNat (List.length (α := PV) b0))) ≤ (Int.ofNat (List.length (α := PV) b0)) ∧ k0 (cutL b0 0 (Int.toNat (if (1000 : Int) < (Int.ofNat (List.length (α := PV) b0)) then 1000 else (Int.ofNat (List.length (α := PV) b0)))))
def P9 : FnSem := fun bs t K =>
  consK t fun r1 r2 => asListK 5 r1 fun b0 => nilK r2 <| bNilK bs <| B9 b0 (fun z0 => K [] [(.list 5 z0)])
def W9 : FnSem := fun bs t K => P9 bs (weakL [some 5] t) K
def T9 : List (FuncId × FnSem) := []
def C9 : Ctx := ⟨pvT, pvG, lookΦ T9, pvRef, fun i => none, fun _ => none, fun i => List.getD [[0], [2]] i [], 0, true, fun i => List.getD [] i []⟩
theorem B9_eq (b0 : List PV) (K : List Blk → List PV → Prop) : evF C9 Try.f9 [] [(.list 5 b0)] K = (([] : List Blk).length = 0 ∧ B9 b0 (fun z0 => K [] [(.list 5 z0)])) := by kernel_rfl
theorem T9_ok : AllSound Try.prog pvT pvG T9 := trivial
theorem W9_ok : Sound Try.prog pvT pvG 9 W9 := Sound.weak (evF_sound (C := C9) (Base.of pvT_fits pvT_sized pvT_eq T9_ok pvMixed) Try.func9 (LoopsOk.of_loops (l := []) rfl (by kernel_rfl) trivial) (fun bs t K h0 => by
    unfold P9 at h0
    obtain ⟨r1, r2, rfl, h1⟩ := consK_inv h0
    obtain ⟨b0, rfl, h2⟩ := asListK_inv h1
    obtain ⟨rfl, h3⟩ := nilK_inv h2
    obtain ⟨rfl, h4⟩ := bNilK_inv h3
    have h := h4
    exact Eq.mpr (B9_eq b0 K) ⟨rfl, h⟩)) _
def S12_7 (t11 : List PV) (t12 : Int) (t13 : Int) (x5 : Int) (t21 : Int) (kn : Int → Int → Prop) (k0 : Int → Int → Prop) : Prop :=
  cond (decide (t21 < 8))
  ((0 : Int) ≤ 1 ∧ cond (decide ((bitsW .and .u32 x5 1) = 1))
  (kn (bitsW .xor .u32 (Int.fdiv x5 (2 ^ 1)) 2197175160) (IntKind.wrap .i64 (t21 + 1)))
  (kn (Int.fdiv x5 (2 ^ 1)) (IntKind.wrap .i64 (t21 + 1))))
  (k0 x5 t21)
def R12_7 (t11 : List PV) (t12 : Int) (t13 : Int) (k0 : Int → Int → Prop) : Nat → Int → Int → Prop
  | 0, _, _ => False
  | n + 1, x5, t21 => S12_7 t11 t12 t13 x5 t21 (R12_7 t11 t12 t13 k0 n) k0
def L12_7 (x5 : Int) (t11 : List PV) (t12 : Int) (t13 : Int) (t21 : Int) (k0 : Int → Int → Prop) : Prop := ∃ n, R12_7 t11 t12 t13 k0 n x5 t21
def Q12_7 : LoopSem := fun t bs K =>
  skipU 5 t fun r1 => consK r1 fun r2 r3 => asIntK .u32 r2 fun x5 => skipU 5 r3 fun r4 => consK r4 fun r5 r6 => asListK 5 r5 fun t11 => consK r6 fun r7 r8 => asIntK .i64 r7 fun t12 => consK r8 fun r9 r10 => asIntK .i64 r9 fun t13 => skipU 7 r10 fun r11 => consK r11 fun r12 r13 => asIntK .i64 r12 fun t21 => skipU 13 r13 fun r14 => nilK r14 <| bNilK bs <| L12_7 x5 t11 t12 t13 t21 (fun z0 z4 => K (.exit 2) (skU 5 ((.int .u32 z0) :: skU 5 ((.list 5 t11) :: (.int .i64 t12) :: (.int .i64 t13) :: skU 7 ((.int .i64 z4) :: skU 13 [])))) [])
def S12_3 (t11 : List PV) (t12 : Int) (x5 : Int) (t13 : Int) (kn : Int → Int → Prop) (k0 : Int → Int → Prop) : Prop :=
  cond (decide (t13 < t12))
  ((0 : Int) ≤ t13 ∧ elemAt t11 (Int.toNat t13) fun e_1 => asIntK .u8 e_1 fun n_2 => L12_7 (bitsW .xor .u32 x5 (IntKind.wrap .u32 n_2)) t11 t12 t13 0 (fun x5_3 t21_4 => kn x5_3 (IntKind.wrap .i64 (t13 + 1))))
  (k0 x5 t13)
def R12_3 (t11 : List PV) (t12 : Int) (k0 : Int → Int → Prop) : Nat → Int → Int → Prop
  | 0, _, _ => False
  | n + 1, x5, t13 => S12_3 t11 t12 x5 t13 (R12_3 t11 t12 k0 n) k0
def L12_3 (x5 : Int) (t11 : List PV) (t12 : Int) (t13 : Int) (k0 : Int → Int → Prop) : Prop := ∃ n, R12_3 t11 t12 k0 n x5 t13
def Q12_3 : LoopSem := fun t bs K =>
  skipU 5 t fun r1 => consK r1 fun r2 r3 => asIntK .u32 r2 fun x5 => skipU 5 r3 fun r4 => consK r4 fun r5 r6 => asListK 5 r5 fun t11 => consK r6 fun r7 r8 => asIntK .i64 r7 fun t12 => consK r8 fun r9 r10 => asIntK .i64 r9 fun t13 => skipU 21 r10 fun r11 => nilK r11 <| bNilK bs <| L12_3 x5 t11 t12 t13 (fun z0 z3 => K (.exit 0) (skU 5 ((.int .u32 z0) :: skU 5 ((.list 5 t11) :: (.int .i64 t12) :: (.int .i64 z3) :: skU 21 []))) [])
def B12 (sum0 : Int) (b1 : List PV) (k0 : Int → Prop) : Prop :=
  L12_3 (bitsW .xor .u32 4294967295 sum0) b1 (Int.ofNat (List.length (α := PV) b1)) 0 (fun x5_5 t13_6 => k0 (bitsW .xor .u32 4294967295 x5_5))
def P12 : FnSem := fun bs t K =>
  consK t fun r1 r2 => asIntK .u32 r1 fun sum0 => consK r2 fun r3 r4 => asListK 5 r3 fun b1 => nilK r4 <| bNilK bs <| B12 sum0 b1 (fun z0 => K [] [(.int .u32 z0)])
def W12 : FnSem := fun bs t K => P12 bs (weakL [none, some 5] t) K
def T12 : List (FuncId × FnSem) := (9, W9) :: T9
def C12 : Ctx := ⟨pvT, pvG, lookΦ T12, pvRef, fun i => cond (Nat.beq i 3) (some Q12_3) (cond (Nat.beq i 7) (some Q12_7) (none)), fun _ => none, fun i => List.getD [[0, 1], [1, 5], [5, 11, 12, 13], [5, 11, 12, 13, 14], [5, 7, 11, 12, 13], [5, 11, 12, 13], [5, 11, 12, 13, 21], [5, 11, 12, 13, 21, 22], [5, 8, 11, 12, 13, 21], [5, 8, 11, 12, 13, 21], [5, 11, 12, 13, 21, 28], [5, 11, 12, 13, 21], [5, 11, 12, 13, 21], [5, 11, 12, 13], [4]] i [], 0, true, fun i => List.getD [] i []⟩
theorem S12_7_eq (x5 : Int) (t11 : List PV) (t12 : Int) (t13 : Int) (t21 : Int) (G : Ex → St → Prop) : evC C12 (codeOf Try.f12 [1, 1, 0, 1, 0, 0, 1, 1, 0, 0, 1, 1, 1, 0, 0]) (mkSt (skU 5 ((.int .u32 x5) :: skU 5 ((.list 5 t11) :: (.int .i64 t12) :: (.int .i64 t13) :: skU 7 ((.int .i64 t21) :: skU 13 [])))) []) G = S12_7 t11 t12 t13 x5 t21 (fun x5 t21 => G .normal (mkSt (skU 5 ((.int .u32 x5) :: skU 5 ((.list 5 t11) :: (.int .i64 t12) :: (.int .i64 t13) :: skU 7 ((.int .i64 t21) :: skU 13 [])))) [])) (fun z0 z4 => G (.exit 2) (mkSt (skU 5 ((.int .u32 z0) :: skU 5 ((.list 5 t11) :: (.int .i64 t12) :: (.int .i64 t13) :: skU 7 ((.int .i64 z4) :: skU 13 [])))) [])) := by kernel_rfl
theorem R12_7_eq (t11 : List PV) (t12 : Int) (t13 : Int) (G : Ex → St → Prop) : ∀ (n : Nat) (x5 : Int) (t21 : Int), evLoop C12 (codeOf Try.f12 [1, 1, 0, 1, 0, 0, 1, 1, 0, 0, 1, 1, 1, 0, 0]) n (mkSt (skU 5 ((.int .u32 x5) :: skU 5 ((.list 5 t11) :: (.int .i64 t12) :: (.int .i64 t13) :: skU 7 ((.int .i64 t21) :: skU 13 [])))) []) G = R12_7 t11 t12 t13 (fun z0 z4 => G (.exit 2) (mkSt (skU 5 ((.int .u32 z0) :: skU 5 ((.list 5 t11) :: (.int .i64 t12) :: (.int .i64 t13) :: skU 7 ((.int .i64 z4) :: skU 13 [])))) [])) n x5 t21
  | 0, _, _ => rfl
  | n + 1, x5, t21 => (S12_7_eq x5 t11 t12 t13 t21 (fun e s => match e with | .normal => evLoop C12 (codeOf Try.f12 [1, 1, 0, 1, 0, 0, 1, 1, 0, 0, 1, 1, 1, 0, 0]) n s G | .exit id => G (.exit id) s | .ret => G .ret s)).trans (congrArg (fun q => S12_7 t11 t12 t13 x5 t21 q (fun z0 z4 => G (.exit 2) (mkSt (skU 5 ((.int .u32 z0) :: skU 5 ((.list 5 t11) :: (.int .i64 t12) :: (.int .i64 t13) :: skU 7 ((.int .i64 z4) :: skU 13 [])))) []))) (funext fun x5 => funext fun t21 => R12_7_eq t11 t12 t13 G n x5 t21))
theorem Q12_7_ok : LoopOk C12 (codeOf Try.f12 [1, 1, 0, 1, 0, 0, 1, 1, 0, 0, 1, 1, 1, 0, 0]) := LoopOk.of (l := Q12_7) (by kernel_rfl) (fun t bs K h0 => by
    unfold Q12_7 at h0
    obtain ⟨r1, rfl, h1⟩ := skipU_inv h0
    obtain ⟨r2, r3, rfl, h2⟩ := consK_inv h1
    obtain ⟨x5, rfl, h3⟩ := asIntK_inv h2
    obtain ⟨r4, rfl, h4⟩ := skipU_inv h3
    obtain ⟨r5, r6, rfl, h5⟩ := consK_inv h4
    obtain ⟨t11, rfl, h6⟩ := asListK_inv h5
    obtain ⟨r7, r8, rfl, h7⟩ := consK_inv h6
    obtain ⟨t12, rfl, h8⟩ := asIntK_inv h7
    obtain ⟨r9, r10, rfl, h9⟩ := consK_inv h8
    obtain ⟨t13, rfl, h10⟩ := asIntK_inv h9
    obtain ⟨r11, rfl, h11⟩ := skipU_inv h10
    obtain ⟨r12, r13, rfl, h12⟩ := consK_inv h11
    obtain ⟨t21, rfl, h13⟩ := asIntK_inv h12
    obtain ⟨r14, rfl, h14⟩ := skipU_inv h13
    obtain ⟨rfl, h15⟩ := nilK_inv h14
    obtain ⟨rfl, h16⟩ := bNilK_inv h15
    have h := h16
    obtain ⟨n, hn⟩ := h
    exact ⟨n, Eq.mpr (R12_7_eq t11 t12 t13 (onSt K) n x5 t21) hn⟩)
theorem S12_3_eq (x5 : Int) (t11 : List PV) (t12 : Int) (t13 : Int) (G : Ex → St → Prop) : evC C12 (codeOf Try.f12 [1, 1, 0, 1, 0, 0]) (mkSt (skU 5 ((.int .u32 x5) :: skU 5 ((.list 5 t11) :: (.int .i64 t12) :: (.int .i64 t13) :: skU 21 []))) []) G = S12_3 t11 t12 x5 t13 (fun x5 t13 => G .normal (mkSt (skU 5 ((.int .u32 x5) :: skU 5 ((.list 5 t11) :: (.int .i64 t12) :: (.int .i64 t13) :: skU 21 []))) [])) (fun z0 z3 => G (.exit 0) (mkSt (skU 5 ((.int .u32 z0) :: skU 5 ((.list 5 t11) :: (.int .i64 t12) :: (.int .i64 z3) :: skU 21 []))) [])) := by kernel_rfl
theorem R12_3_eq (t11 : List PV) (t12 : Int) (G : Ex → St → Prop) : ∀ (n : Nat) (x5 : Int) (t13 : Int), evLoop C12 (codeOf Try.f12 [1, 1, 0, 1, 0, 0]) n (mkSt (skU 5 ((.int .u32 x5) :: skU 5 ((.list 5 t11) :: (.int .i64 t12) :: (.int .i64 t13) :: skU 21 []))) []) G = R12_3 t11 t12 (fun z0 z3 => G (.exit 0) (mkSt (skU 5 ((.int .u32 z0) :: skU 5 ((.list 5 t11) :: (.int .i64 t12) :: (.int .i64 z3) :: skU 21 []))) [])) n x5 t13
  | 0, _, _ => rfl
  | n + 1, x5, t13 => (S12_3_eq x5 t11 t12 t13 (fun e s => match e with | .normal => evLoop C12 (codeOf Try.f12 [1, 1, 0, 1, 0, 0]) n s G | .exit id => G (.exit id) s | .ret => G .ret s)).trans (congrArg (fun q => S12_3 t11 t12 x5 t13 q (fun z0 z3 => G (.exit 0) (mkSt (skU 5 ((.int .u32 z0) :: skU 5 ((.list 5 t11) :: (.int .i64 t12) :: (.int .i64 z3) :: skU 21 []))) []))) (funext fun x5 => funext fun t13 => R12_3_eq t11 t12 G n x5 t13))
theorem Q12_3_ok : LoopOk C12 (codeOf Try.f12 [1, 1, 0, 1, 0, 0]) := LoopOk.of (l := Q12_3) (by kernel_rfl) (fun t bs K h0 => by
    unfold Q12_3 at h0
    obtain ⟨r1, rfl, h1⟩ := skipU_inv h0
    obtain ⟨r2, r3, rfl, h2⟩ := consK_inv h1
    obtain ⟨x5, rfl, h3⟩ := asIntK_inv h2
    obtain ⟨r4, rfl, h4⟩ := skipU_inv h3
    obtain ⟨r5, r6, rfl, h5⟩ := consK_inv h4
    obtain ⟨t11, rfl, h6⟩ := asListK_inv h5
    obtain ⟨r7, r8, rfl, h7⟩ := consK_inv h6
    obtain ⟨t12, rfl, h8⟩ := asIntK_inv h7
    obtain ⟨r9, r10, rfl, h9⟩ := consK_inv h8
    obtain ⟨t13, rfl, h10⟩ := asIntK_inv h9
    obtain ⟨r11, rfl, h11⟩ := skipU_inv h10
    obtain ⟨rfl, h12⟩ := nilK_inv h11
    obtain ⟨rfl, h13⟩ := bNilK_inv h12
    have h := h13
    obtain ⟨n, hn⟩ := h
    exact ⟨n, Eq.mpr (R12_3_eq t11 t12 (onSt K) n x5 t13) hn⟩)
theorem B12_eq (sum0 : Int) (b1 : List PV) (K : List Blk → List PV → Prop) : evF C12 Try.f12 [] [(.int .u32 sum0), (.list 5 b1)] K = (([] : List Blk).length = 0 ∧ B12 sum0 b1 (fun z0 => K [] [(.int .u32 z0)])) := by kernel_rfl
theorem T12_ok : AllSound Try.prog pvT pvG T12 := ⟨⟨W9_ok, fun a w => Try.call9 a w⟩, T9_ok⟩
theorem W12_ok : Sound Try.prog pvT pvG 12 W12 := Sound.weak (evF_sound (C := C12) (Base.of pvT_fits pvT_sized pvT_eq T12_ok pvMixed) Try.func12 (LoopsOk.of_loops (l := [codeOf Try.f12 [1, 1, 0, 1, 0, 0], codeOf Try.f12 [1, 1, 0, 1, 0, 0, 1, 1, 0, 0, 1, 1, 1, 0, 0]]) rfl (by kernel_rfl) ⟨Q12_3_ok, ⟨Q12_7_ok, trivial⟩⟩) (fun bs t K h0 => by
    unfold P12 at h0
    obtain ⟨r1, r2, rfl, h1⟩ := consK_inv h0
    obtain ⟨sum0, rfl, h2⟩ := asIntK_inv h1
    obtain ⟨r3, r4, rfl, h3⟩ := consK_inv h2
    obtain ⟨b1, rfl, h4⟩ := asListK_inv h3
    obtain ⟨rfl, h5⟩ := nilK_inv h4
    obtain ⟨rfl, h6⟩ := bNilK_inv h5
    have h := h6
    exact Eq.mpr (B12_eq sum0 b1 K) ⟨rfl, h⟩)) _
def B10 (b0 : List PV) (k0 : Int → Prop) : Prop :=
  B12 0 b0 (fun r0_7 => k0 r0_7)
def P10 : FnSem := fun bs t K =>
  consK t fun r1 r2 => asListK 5 r1 fun b0 => nilK r2 <| bNilK bs <| B10 b0 (fun z0 => K [] [(.int .u32 z0)])
def W10 : FnSem := fun bs t K => P10 bs (weakL [some 5] t) K
def T10 : List (FuncId × FnSem) := (12, W12) :: T12
def C10 : Ctx := ⟨pvT, pvG, lookΦ T10, pvRef, fun i => none, fun _ => none, fun i => List.getD [[0], [2]] i [], 0, true, fun i => List.getD [] i []⟩
theorem B10_eq (b0 : List PV) (K : List Blk → List PV → Prop) : evF C10 Try.f10 [] [(.list 5 b0)] K = (([] : List Blk).length = 0 ∧ B10 b0 (fun z0 => K [] [(.int .u32 z0)])) := by kernel_rfl
theorem T10_ok : AllSound Try.prog pvT pvG T10 := ⟨⟨W12_ok, fun a w => Try.call12 a w⟩, T12_ok⟩
theorem W10_ok : Sound Try.prog pvT pvG 10 W10 := Sound.weak (evF_sound (C := C10) (Base.of pvT_fits pvT_sized pvT_eq T10_ok pvMixed) Try.func10 (LoopsOk.of_loops (l := []) rfl (by kernel_rfl) trivial) (fun bs t K h0 => by
    unfold P10 at h0
    obtain ⟨r1, r2, rfl, h1⟩ := consK_inv h0
    obtain ⟨b0, rfl, h2⟩ := asListK_inv h1
    obtain ⟨rfl, h3⟩ := nilK_inv h2
    obtain ⟨rfl, h4⟩ := bNilK_inv h3
    have h := h4
    exact Eq.mpr (B10_eq b0 K) ⟨rfl, h⟩)) _
def B20 (s0 : List PV) (k0 : Prop) (k1 : Nat → List PV → Prop) : Prop :=
  ∀ b_8 : Bool, (b_8 = true → s0 = []) → cond b_8
  (k0)
  (0 = (List.length (α := PV) []) ∧ (0 + (List.length (α := PV) s0)) * 1 ≤ maxRoom ∧ k1 (0 + (List.length (α := PV) s0)) ([] ++ s0))
def P20 : FnSem := fun bs t K =>
  consK t fun r1 r2 => asListK 5 r1 fun s0 => nilK r2 <| bNilK bs <| B20 s0 (K [] [.nilsl]) (fun z0 z1 => K [(.row true 5 z1)] [(.sl 0 5 0 z0)])
def W20 : FnSem := fun bs t K => P20 bs (weakL [some 5] t) K
def T20 : List (FuncId × FnSem) := (10, W10) :: T10
def C20 : Ctx := ⟨pvT, pvG, lookΦ T20, pvRef, fun i => none, fun _ => none, fun i => List.getD [[0], [0, 4], [2], [2]] i [], 0, true, fun i => List.getD [] i []⟩
theorem B20_eq (s0 : List PV) (K : List Blk → List PV → Prop) : evF C20 Try.f20 [] [(.list 5 s0)] K = (([] : List Blk).length = 0 ∧ B20 s0 (K [] [.nilsl]) (fun z0 z1 => K [(.row true 5 z1)] [(.sl 0 5 0 z0)])) := by kernel_rfl
theorem T20_ok : AllSound Try.prog pvT pvG T20 := ⟨⟨W10_ok, fun a w => Try.call10 a w⟩, T10_ok⟩
theorem W20_ok : Sound Try.prog pvT pvG 20 W20 := Sound.weak (evF_sound (C := C20) (Base.of pvT_fits pvT_sized pvT_eq T20_ok pvMixed) Try.func20 (LoopsOk.of_loops (l := []) rfl (by kernel_rfl) trivial) (fun bs t K h0 => by
    unfold P20 at h0
    obtain ⟨r1, r2, rfl, h1⟩ := consK_inv h0
    obtain ⟨s0, rfl, h2⟩ := asListK_inv h1
    obtain ⟨rfl, h3⟩ := nilK_inv h2
    obtain ⟨rfl, h4⟩ := bNilK_inv h3
    have h := h4
    exact Eq.mpr (B20_eq s0 K) ⟨rfl, h⟩)) _
def S21_4 (powers1n : Nat) (l2n : Nat) (x0 : List PV) (i3 : Int) (x1 : List PV) (kn : Int → List PV → Prop) (k0 : Int → List PV → Prop) : Prop :=
  cond (decide (i3 < (Int.ofNat powers1n)))
  ((0 : Int) ≤ i3 ∧ i3 < (Int.ofNat powers1n) ∧ elemAt x0 (0 + (Int.toNat i3)) fun e_9 => asIntK .i64 e_9 fun n_10 => (0 : Int) ≤ (IntKind.wrap .i64 (32 - n_10)) ∧ (IntKind.wrap .i64 (32 - n_10)) < (Int.ofNat l2n) ∧ elemAt x1 (0 + (Int.toNat (IntKind.wrap .i64 (32 - n_10)))) fun _ => kn (IntKind.wrap .i64 (i3 + 1)) (List.set x1 (0 + (Int.toNat (IntKind.wrap .i64 (32 - n_10)))) (.bool true)))
  (k0 i3 x1)
def R21_4 (powers1n : Nat) (l2n : Nat) (x0 : List PV) (k0 : Int → List PV → Prop) : Nat → Int → List PV → Prop
  | 0, _, _ => False
  | n + 1, i3, x1 => S21_4 powers1n l2n x0 i3 x1 (R21_4 powers1n l2n x0 k0 n) k0
def L21_4 (powers1n : Nat) (l2n : Nat) (i3 : Int) (x0 : List PV) (x1 : List PV) (k0 : Int → List PV → Prop) : Prop := ∃ n, R21_4 powers1n l2n x0 k0 n i3 x1
def Q21_4 : LoopSem := fun t bs K =>
  skipU 1 t fun r1 => consK r1 fun r2 r3 => slK0 0 3 r2 fun powers1n => consK r3 fun r4 r5 => slK0 1 4 r4 fun l2n => consK r5 fun r6 r7 => asIntK .i64 r6 fun i3 => skipU 16 r7 fun r8 => nilK r8 <| bConsK bs fun r9 r10 => bRowK true 3 r9 fun x0 => bConsK r10 fun r11 r12 => bRowK true 4 r11 fun x1 => bNilK r12 <| L21_4 powers1n l2n i3 x0 x1 (fun z2 z4 => K (.exit 0) (skU 1 ((.sl 0 3 0 powers1n) :: (.sl 1 4 0 l2n) :: (.int .i64 z2) :: skU 16 [])) [(.row true 3 x0), (.row true 4 z4)])
def B21 (k0 : Nat → List PV → Prop) : Prop :=
  ((0 : Int) ≤ 33 ∧ (33 : Int) ≤ 33 ∧ (33 : Int) * 1 ≤ maxRoom ∧ (33 : Int) ≤ maxRoom) ∧ L21_4 18 33 0 [(.int .i64 32), (.int .i64 28), (.int .i64 27), (.int .i64 26), (.int .i64 25), (.int .i64 23), (.int .i64 22), (.int .i64 20), (.int .i64 19), (.int .i64 18), (.int .i64 14), (.int .i64 13), (.int .i64 11), (.int .i64 10), (.int .i64 9), (.int .i64 8), (.int .i64 6), (.int .i64 0)] (List.replicate 33 (.bool false)) (fun i3_12 x1_13 => k0 33 x1_13)
def P21 : FnSem := fun bs t K =>
  nilK t <| bNilK bs <| B21  (fun z0 z1 => K [(.row true 4 z1)] [(.sl 0 4 0 z0)])
def W21 : FnSem := fun bs t K => P21 bs (weakL [] t) K
def T21 : List (FuncId × FnSem) := (20, W20) :: T20
def C21 : Ctx := ⟨pvT, pvG, lookΦ T21, pvRef, fun i => cond (Nat.beq i 4) (some Q21_4) (none), fun _ => none, fun i => List.getD [[], [1], [1, 2], [1, 2, 3], [1, 2, 3, 9], [1, 2, 3], [1, 2, 3], [0]] i [], 0, true, fun i => List.getD [] i []⟩
theorem S21_4_eq (powers1n : Nat) (l2n : Nat) (i3 : Int) (x0 : List PV) (x1 : List PV) (G : Ex → St → Prop) : evC C21 (codeOf Try.f21 [1, 1, 1, 0, 1, 0, 0]) (mkSt (skU 1 ((.sl 0 3 0 powers1n) :: (.sl 1 4 0 l2n) :: (.int .i64 i3) :: skU 16 [])) [(.row true 3 x0), (.row true 4 x1)]) G = S21_4 powers1n l2n x0 i3 x1 (fun i3 x1 => G .normal (mkSt (skU 1 ((.sl 0 3 0 powers1n) :: (.sl 1 4 0 l2n) :: (.int .i64 i3) :: skU 16 [])) [(.row true 3 x0), (.row true 4 x1)])) (fun z2 z4 => G (.exit 0) (mkSt (skU 1 ((.sl 0 3 0 powers1n) :: (.sl 1 4 0 l2n) :: (.int .i64 z2) :: skU 16 [])) [(.row true 3 x0), (.row true 4 z4)])) := by kernel_rfl
theorem R21_4_eq (powers1n : Nat) (l2n : Nat) (x0 : List PV) (G : Ex → St → Prop) : ∀ (n : Nat) (i3 : Int) (x1 : List PV), evLoop C21 (codeOf Try.f21 [1, 1, 1, 0, 1, 0, 0]) n (mkSt (skU 1 ((.sl 0 3 0 powers1n) :: (.sl 1 4 0 l2n) :: (.int .i64 i3) :: skU 16 [])) [(.row true 3 x0), (.row true 4 x1)]) G = R21_4 powers1n l2n x0 (fun z2 z4 => G (.exit 0) (mkSt (skU 1 ((.sl 0 3 0 powers1n) :: (.sl 1 4 0 l2n) :: (.int .i64 z2) :: skU 16 [])) [(.row true 3 x0), (.row true 4 z4)])) n i3 x1
  | 0, _, _ => rfl
  | n + 1, i3, x1 => (S21_4_eq powers1n l2n i3 x0 x1 (fun e s => match e with | .normal => evLoop C21 (codeOf Try.f21 [1, 1, 1, 0, 1, 0, 0]) n s G | .exit id => G (.exit id) s | .ret => G .ret s)).trans (congrArg (fun q => S21_4 powers1n l2n x0 i3 x1 q (fun z2 z4 => G (.exit 0) (mkSt (skU 1 ((.sl 0 3 0 powers1n) :: (.sl 1 4 0 l2n) :: (.int .i64 z2) :: skU 16 [])) [(.row true 3 x0), (.row true 4 z4)]))) (funext fun i3 => funext fun x1 => R21_4_eq powers1n l2n x0 G n i3 x1))
theorem Q21_4_ok : LoopOk C21 (codeOf Try.f21 [1, 1, 1, 0, 1, 0, 0]) := LoopOk.of (l := Q21_4) (by kernel_rfl) (fun t bs K h0 => by
    unfold Q21_4 at h0
    obtain ⟨r1, rfl, h1⟩ := skipU_inv h0
    obtain ⟨r2, r3, rfl, h2⟩ := consK_inv h1
    obtain ⟨powers1n, rfl, h3⟩ := slK0_inv h2
    obtain ⟨r4, r5, rfl, h4⟩ := consK_inv h3
    obtain ⟨l2n, rfl, h5⟩ := slK0_inv h4
    obtain ⟨r6, r7, rfl, h6⟩ := consK_inv h5
    obtain ⟨i3, rfl, h7⟩ := asIntK_inv h6
    obtain ⟨r8, rfl, h8⟩ := skipU_inv h7
    obtain ⟨rfl, h9⟩ := nilK_inv h8
    obtain ⟨r9, r10, rfl, h10⟩ := bConsK_inv h9
    obtain ⟨x0, rfl, h11⟩ := bRowK_inv h10
    obtain ⟨r11, r12, rfl, h12⟩ := bConsK_inv h11
    obtain ⟨x1, rfl, h13⟩ := bRowK_inv h12
    obtain ⟨rfl, h14⟩ := bNilK_inv h13
    have h := h14
    obtain ⟨n, hn⟩ := h
    exact ⟨n, Eq.mpr (R21_4_eq powers1n l2n x0 (onSt K) n i3 x1) hn⟩)
theorem B21_eq (K : List Blk → List PV → Prop) : evF C21 Try.f21 [] [] K = (([] : List Blk).length = 0 ∧ B21  (fun z0 z1 => K [(.row true 4 z1)] [(.sl 0 4 0 z0)])) := by kernel_rfl
theorem T21_ok : AllSound Try.prog pvT pvG T21 := ⟨⟨W20_ok, fun a w => Try.call20 a w⟩, T20_ok⟩
theorem W21_ok : Sound Try.prog pvT pvG 21 W21 := Sound.weak (evF_sound (C := C21) (Base.of pvT_fits pvT_sized pvT_eq T21_ok pvMixed) Try.func21 (LoopsOk.of_loops (l := [codeOf Try.f21 [1, 1, 1, 0, 1, 0, 0]]) rfl (by kernel_rfl) ⟨Q21_4_ok, trivial⟩) (fun bs t K h0 => by
    unfold P21 at h0
    obtain ⟨rfl, h1⟩ := nilK_inv h0
    obtain ⟨rfl, h2⟩ := bNilK_inv h1
    have h := h2
    exact Eq.mpr (B21_eq  K) ⟨rfl, h⟩)) _
def S18_6 (b0 : List PV) (i4 : Int) (l3n : Nat) (k5 : Int) (x0 : List PV) (kn : Nat → Int → List PV → Prop) (k0 : Nat → Int → List PV → Prop) : Prop :=
  cond (decide (k5 < 8))
  ((0 : Int) ≤ i4 ∧ elemAt b0 (Int.toNat i4) fun e_21 => asIntK .u8 e_21 fun n_22 => 0 ≤ (IntKind.wrap .u64 k5) ∧ 0 + 1 ≤ (List.length (α := PV) [(.bool (decide ((bitsW .and .u8 (Int.fdiv n_22 (2 ^ (min (Int.toNat (IntKind.wrap .u64 k5)) 8))) 1) = 1)))]) ∧ l3n = (List.length (α := PV) x0) ∧ (l3n + (List.length (α := PV) (rowPart [(.bool (decide ((bitsW .and .u8 (Int.fdiv n_22 (2 ^ (min (Int.toNat (IntKind.wrap .u64 k5)) 8))) 1) = 1)))] 0 1))) * 1 ≤ maxRoom ∧ kn (l3n + (List.length (α := PV) (rowPart [(.bool (decide ((bitsW .and .u8 (Int.fdiv n_22 (2 ^ (min (Int.toNat (IntKind.wrap .u64 k5)) 8))) 1) = 1)))] 0 1))) (IntKind.wrap .i64 (k5 + 1)) (x0 ++ (rowPart [(.bool (decide ((bitsW .and .u8 (Int.fdiv n_22 (2 ^ (min (Int.toNat (IntKind.wrap .u64 k5)) 8))) 1) = 1)))] 0 1)))
  (k0 l3n k5 x0)
def R18_6 (b0 : List PV) (i4 : Int) (k0 : Nat → Int → List PV → Prop) : Nat → Nat → Int → List PV → Prop
  | 0, _, _, _ => False
  | n + 1, l3n, k5, x0 => S18_6 b0 i4 l3n k5 x0 (R18_6 b0 i4 k0 n) k0
def L18_6 (b0 : List PV) (l3n : Nat) (i4 : Int) (k5 : Int) (x0 : List PV) (k0 : Nat → Int → List PV → Prop) : Prop := ∃ n, R18_6 b0 i4 k0 n l3n k5 x0
def Q18_6 : LoopSem := fun t bs K =>
  consK t fun r1 r2 => asListK 5 r1 fun b0 => skipU 2 r2 fun r3 => consK r3 fun r4 r5 => slK0 0 4 r4 fun l3n => consK r5 fun r6 r7 => asIntK .i64 r6 fun i4 => consK r7 fun r8 r9 => asIntK .i64 r8 fun k5 => skipU 23 r9 fun r10 => nilK r10 <| bConsK bs fun r11 r12 => bRowK true 4 r11 fun x0 => bNilK r12 <| L18_6 b0 l3n i4 k5 x0 (fun z1 z3 z4 => K (.exit 2) ((.list 5 b0) :: skU 2 ((.sl 0 4 0 z1) :: (.int .i64 i4) :: (.int .i64 z3) :: skU 23 [])) [(.row true 4 z4)])
def S18_3 (b0 : List PV) (l3n : Nat) (i4 : Int) (x0 : List PV) (kn : Nat → Int → List PV → Prop) (k0 : Nat → Int → List PV → Prop) : Prop :=
  cond (decide (i4 < (Int.ofNat (List.length (α := PV) b0))))
  (L18_6 b0 l3n i4 0 x0 (fun l3n_23 k5_24 x0_25 => kn l3n_23 (IntKind.wrap .i64 (i4 + 1)) x0_25))
  (k0 l3n i4 x0)
def R18_3 (b0 : List PV) (k0 : Nat → Int → List PV → Prop) : Nat → Nat → Int → List PV → Prop
  | 0, _, _, _ => False
  | n + 1, l3n, i4, x0 => S18_3 b0 l3n i4 x0 (R18_3 b0 k0 n) k0
def L18_3 (b0 : List PV) (l3n : Nat) (i4 : Int) (x0 : List PV) (k0 : Nat → Int → List PV → Prop) : Prop := ∃ n, R18_3 b0 k0 n l3n i4 x0
def Q18_3 : LoopSem := fun t bs K =>
  consK t fun r1 r2 => asListK 5 r1 fun b0 => skipU 2 r2 fun r3 => consK r3 fun r4 r5 => slK0 0 4 r4 fun l3n => consK r5 fun r6 r7 => asIntK .i64 r6 fun i4 => skipU 24 r7 fun r8 => nilK r8 <| bConsK bs fun r9 r10 => bRowK true 4 r9 fun x0 => bNilK r10 <| L18_3 b0 l3n i4 x0 (fun z1 z2 z3 => K (.exit 0) ((.list 5 b0) :: skU 2 ((.sl 0 4 0 z1) :: (.int .i64 z2) :: skU 24 [])) [(.row true 4 z3)])
def B18 (b0 : List PV) (k0 : Nat → List PV → Prop) : Prop :=
  L18_3 b0 0 0 [] (fun l3n_26 i4_27 x0_28 => k0 l3n_26 x0_28)
def P18 : FnSem := fun bs t K =>
  consK t fun r1 r2 => asListK 5 r1 fun b0 => nilK r2 <| bNilK bs <| B18 b0 (fun z0 z1 => K [(.row true 4 z1)] [(.sl 0 4 0 z0)])
def W18 : FnSem := fun bs t K => P18 bs (weakL [some 5] t) K
def T18 : List (FuncId × FnSem) := (21, W21) :: T21
def C18 : Ctx := ⟨pvT, pvG, lookΦ T18, pvRef, fun i => cond (Nat.beq i 3) (some Q18_3) (cond (Nat.beq i 6) (some Q18_6) (none)), fun _ => none, fun i => List.getD [[0], [0, 3], [0, 3, 4], [0, 3, 4, 9], [0, 3, 4], [0, 3, 4, 5], [0, 3, 4, 5, 13], [0, 3, 4, 5], [0, 3, 4, 5], [2]] i [], 0, true, fun i => List.getD [[], [], [(3, 4)], [], [], [(3, 4)], [], [], [], []] i []⟩
theorem S18_6_eq (b0 : List PV) (l3n : Nat) (i4 : Int) (k5 : Int) (x0 : List PV) (G : Ex → St → Prop) : evC C18 (codeOf Try.f18 [1, 1, 0, 1, 0, 0, 1, 0, 0, 1, 0, 0]) (mkSt ((.list 5 b0) :: skU 2 ((.sl 0 4 0 l3n) :: (.int .i64 i4) :: (.int .i64 k5) :: skU 23 [])) [(.row true 4 x0)]) G = S18_6 b0 i4 l3n k5 x0 (fun l3n k5 x0 => G .normal (mkSt ((.list 5 b0) :: skU 2 ((.sl 0 4 0 l3n) :: (.int .i64 i4) :: (.int .i64 k5) :: skU 23 [])) [(.row true 4 x0)])) (fun z1 z3 z4 => G (.exit 2) (mkSt ((.list 5 b0) :: skU 2 ((.sl 0 4 0 z1) :: (.int .i64 i4) :: (.int .i64 z3) :: skU 23 [])) [(.row true 4 z4)])) := by kernel_rfl
theorem R18_6_eq (b0 : List PV) (i4 : Int) (G : Ex → St → Prop) : ∀ (n : Nat) (l3n : Nat) (k5 : Int) (x0 : List PV), evLoop C18 (codeOf Try.f18 [1, 1, 0, 1, 0, 0, 1, 0, 0, 1, 0, 0]) n (mkSt ((.list 5 b0) :: skU 2 ((.sl 0 4 0 l3n) :: (.int .i64 i4) :: (.int .i64 k5) :: skU 23 [])) [(.row true 4 x0)]) G = R18_6 b0 i4 (fun z1 z3 z4 => G (.exit 2) (mkSt ((.list 5 b0) :: skU 2 ((.sl 0 4 0 z1) :: (.int .i64 i4) :: (.int .i64 z3) :: skU 23 [])) [(.row true 4 z4)])) n l3n k5 x0
  | 0, _, _, _ => rfl
  | n + 1, l3n, k5, x0 => (S18_6_eq b0 l3n i4 k5 x0 (fun e s => match e with | .normal => evLoop C18 (codeOf Try.f18 [1, 1, 0, 1, 0, 0, 1, 0, 0, 1, 0, 0]) n s G | .exit id => G (.exit id) s | .ret => G .ret s)).trans (congrArg (fun q => S18_6 b0 i4 l3n k5 x0 q (fun z1 z3 z4 => G (.exit 2) (mkSt ((.list 5 b0) :: skU 2 ((.sl 0 4 0 z1) :: (.int .i64 i4) :: (.int .i64 z3) :: skU 23 [])) [(.row true 4 z4)]))) (funext fun l3n => funext fun k5 => funext fun x0 => R18_6_eq b0 i4 G n l3n k5 x0))
theorem Q18_6_ok : LoopOk C18 (codeOf Try.f18 [1, 1, 0, 1, 0, 0, 1, 0, 0, 1, 0, 0]) := LoopOk.of (l := Q18_6) (by kernel_rfl) (fun t bs K h0 => by
    unfold Q18_6 at h0
    obtain ⟨r1, r2, rfl, h1⟩ := consK_inv h0
    obtain ⟨b0, rfl, h2⟩ := asListK_inv h1
    obtain ⟨r3, rfl, h3⟩ := skipU_inv h2
    obtain ⟨r4, r5, rfl, h4⟩ := consK_inv h3
    obtain ⟨l3n, rfl, h5⟩ := slK0_inv h4
    obtain ⟨r6, r7, rfl, h6⟩ := consK_inv h5
    obtain ⟨i4, rfl, h7⟩ := asIntK_inv h6
    obtain ⟨r8, r9, rfl, h8⟩ := consK_inv h7
    obtain ⟨k5, rfl, h9⟩ := asIntK_inv h8
    obtain ⟨r10, rfl, h10⟩ := skipU_inv h9
    obtain ⟨rfl, h11⟩ := nilK_inv h10
    obtain ⟨r11, r12, rfl, h12⟩ := bConsK_inv h11
    obtain ⟨x0, rfl, h13⟩ := bRowK_inv h12
    obtain ⟨rfl, h14⟩ := bNilK_inv h13
    have h := h14
    obtain ⟨n, hn⟩ := h
    exact ⟨n, Eq.mpr (R18_6_eq b0 i4 (onSt K) n l3n k5 x0) hn⟩)
theorem S18_3_eq (b0 : List PV) (l3n : Nat) (i4 : Int) (x0 : List PV) (G : Ex → St → Prop) : evC C18 (codeOf Try.f18 [1, 1, 0, 1, 0, 0]) (mkSt ((.list 5 b0) :: skU 2 ((.sl 0 4 0 l3n) :: (.int .i64 i4) :: skU 24 [])) [(.row true 4 x0)]) G = S18_3 b0 l3n i4 x0 (fun l3n i4 x0 => G .normal (mkSt ((.list 5 b0) :: skU 2 ((.sl 0 4 0 l3n) :: (.int .i64 i4) :: skU 24 [])) [(.row true 4 x0)])) (fun z1 z2 z3 => G (.exit 0) (mkSt ((.list 5 b0) :: skU 2 ((.sl 0 4 0 z1) :: (.int .i64 z2) :: skU 24 [])) [(.row true 4 z3)])) := by kernel_rfl
theorem R18_3_eq (b0 : List PV) (G : Ex → St → Prop) : ∀ (n : Nat) (l3n : Nat) (i4 : Int) (x0 : List PV), evLoop C18 (codeOf Try.f18 [1, 1, 0, 1, 0, 0]) n (mkSt ((.list 5 b0) :: skU 2 ((.sl 0 4 0 l3n) :: (.int .i64 i4) :: skU 24 [])) [(.row true 4 x0)]) G = R18_3 b0 (fun z1 z2 z3 => G (.exit 0) (mkSt ((.list 5 b0) :: skU 2 ((.sl 0 4 0 z1) :: (.int .i64 z2) :: skU 24 [])) [(.row true 4 z3)])) n l3n i4 x0
  | 0, _, _, _ => rfl
  | n + 1, l3n, i4, x0 => (S18_3_eq b0 l3n i4 x0 (fun e s => match e with | .normal => evLoop C18 (codeOf Try.f18 [1, 1, 0, 1, 0, 0]) n s G | .exit id => G (.exit id) s | .ret => G .ret s)).trans (congrArg (fun q => S18_3 b0 l3n i4 x0 q (fun z1 z2 z3 => G (.exit 0) (mkSt ((.list 5 b0) :: skU 2 ((.sl 0 4 0 z1) :: (.int .i64 z2) :: skU 24 [])) [(.row true 4 z3)]))) (funext fun l3n => funext fun i4 => funext fun x0 => R18_3_eq b0 G n l3n i4 x0))
theorem Q18_3_ok : LoopOk C18 (codeOf Try.f18 [1, 1, 0, 1, 0, 0]) := LoopOk.of (l := Q18_3) (by kernel_rfl) (fun t bs K h0 => by
    unfold Q18_3 at h0
    obtain ⟨r1, r2, rfl, h1⟩ := consK_inv h0
    obtain ⟨b0, rfl, h2⟩ := asListK_inv h1
    obtain ⟨r3, rfl, h3⟩ := skipU_inv h2
    obtain ⟨r4, r5, rfl, h4⟩ := consK_inv h3
    obtain ⟨l3n, rfl, h5⟩ := slK0_inv h4
    obtain ⟨r6, r7, rfl, h6⟩ := consK_inv h5
    obtain ⟨i4, rfl, h7⟩ := asIntK_inv h6
    obtain ⟨r8, rfl, h8⟩ := skipU_inv h7
    obtain ⟨rfl, h9⟩ := nilK_inv h8
    obtain ⟨r9, r10, rfl, h10⟩ := bConsK_inv h9
    obtain ⟨x0, rfl, h11⟩ := bRowK_inv h10
    obtain ⟨rfl, h12⟩ := bNilK_inv h11
    have h := h12
    obtain ⟨n, hn⟩ := h
    exact ⟨n, Eq.mpr (R18_3_eq b0 (onSt K) n l3n i4 x0) hn⟩)
theorem B18_eq (b0 : List PV) (K : List Blk → List PV → Prop) : evF C18 Try.f18 [] [(.list 5 b0)] K = (([] : List Blk).length = 0 ∧ B18 b0 (fun z0 z1 => K [(.row true 4 z1)] [(.sl 0 4 0 z0)])) := by kernel_rfl
theorem T18_ok : AllSound Try.prog pvT pvG T18 := ⟨⟨W21_ok, fun a w => Try.call21 a w⟩, T21_ok⟩
theorem W18_ok : Sound Try.prog pvT pvG 18 W18 := Sound.weak (evF_sound (C := C18) (Base.of pvT_fits pvT_sized pvT_eq T18_ok pvMixed) Try.func18 (LoopsOk.of_loops (l := [codeOf Try.f18 [1, 1, 0, 1, 0, 0], codeOf Try.f18 [1, 1, 0, 1, 0, 0, 1, 0, 0, 1, 0, 0]]) rfl (by kernel_rfl) ⟨Q18_3_ok, ⟨Q18_6_ok, trivial⟩⟩) (fun bs t K h0 => by
    unfold P18 at h0
    obtain ⟨r1, r2, rfl, h1⟩ := consK_inv h0
    obtain ⟨b0, rfl, h2⟩ := asListK_inv h1
    obtain ⟨rfl, h3⟩ := nilK_inv h2
    obtain ⟨rfl, h4⟩ := bNilK_inv h3
    have h := h4
    exact Eq.mpr (B18_eq b0 K) ⟨rfl, h⟩)) _
def S19_7 (l0n : Nat) (d3n : Nat) (i4 : Int) (x1 : List PV) (k5 : Int) (x0 : List PV) (kn : Int → List PV → Prop) (k0 : Int → List PV → Prop) : Prop :=
  cond (decide (k5 < 33))
  ((0 : Int) ≤ (IntKind.wrap .i64 (i4 + k5)) ∧ (IntKind.wrap .i64 (i4 + k5)) < (Int.ofNat l0n) ∧ (0 : Int) ≤ k5 ∧ k5 < (Int.ofNat d3n) ∧ (elemAt x0 (0 + (Int.toNat (IntKind.wrap .i64 (i4 + k5)))) fun e_33 => asBoolK e_33 fun b_34 => elemAt x1 (0 + (Int.toNat k5)) fun e_35 => asBoolK e_35 fun b_36 => (0 : Int) ≤ (IntKind.wrap .i64 (i4 + k5)) ∧ (IntKind.wrap .i64 (i4 + k5)) < (Int.ofNat l0n) ∧ elemAt x0 (0 + (Int.toNat (IntKind.wrap .i64 (i4 + k5)))) fun _ => kn (IntKind.wrap .i64 (k5 + 1)) (List.set x0 (0 + (Int.toNat (IntKind.wrap .i64 (i4 + k5)))) (.bool (!(b_34 == b_36))))) ∧ (elemAt x1 (0 + (Int.toNat k5)) fun e_38 => asBoolK e_38 fun b_39 => elemAt x0 (0 + (Int.toNat (IntKind.wrap .i64 (i4 + k5)))) fun e_40 => asBoolK e_40 fun b_41 => (0 : Int) ≤ (IntKind.wrap .i64 (i4 + k5)) ∧ (IntKind.wrap .i64 (i4 + k5)) < (Int.ofNat l0n) ∧ elemAt x0 (0 + (Int.toNat (IntKind.wrap .i64 (i4 + k5)))) fun _ => kn (IntKind.wrap .i64 (k5 + 1)) (List.set x0 (0 + (Int.toNat (IntKind.wrap .i64 (i4 + k5)))) (.bool (!(b_41 == b_39))))))
  (k0 k5 x0)
def R19_7 (l0n : Nat) (d3n : Nat) (i4 : Int) (x1 : List PV) (k0 : Int → List PV → Prop) : Nat → Int → List PV → Prop
  | 0, _, _ => False
  | n + 1, k5, x0 => S19_7 l0n d3n i4 x1 k5 x0 (R19_7 l0n d3n i4 x1 k0 n) k0
def L19_7 (l0n : Nat) (d3n : Nat) (i4 : Int) (k5 : Int) (x0 : List PV) (x1 : List PV) (k0 : Int → List PV → Prop) : Prop := ∃ n, R19_7 l0n d3n i4 x1 k0 n k5 x0
def Q19_7 : LoopSem := fun t bs K =>
  consK t fun r1 r2 => slK0 0 4 r1 fun l0n => skipU 2 r2 fun r3 => consK r3 fun r4 r5 => slK0 1 4 r4 fun d3n => consK r5 fun r6 r7 => asIntK .i64 r6 fun i4 => consK r7 fun r8 r9 => asIntK .i64 r8 fun k5 => skipU 38 r9 fun r10 => nilK r10 <| bConsK bs fun r11 r12 => bRowK true 4 r11 fun x0 => bConsK r12 fun r13 r14 => bRowK true 4 r13 fun x1 => bNilK r14 <| L19_7 l0n d3n i4 k5 x0 x1 (fun z3 z4 => K (.exit 2) ((.sl 0 4 0 l0n) :: skU 2 ((.sl 1 4 0 d3n) :: (.int .i64 i4) :: (.int .i64 z3) :: skU 38 [])) [(.row true 4 z4), (.row true 4 x1)])
def S19_3 (l0n : Nat) (d3n : Nat) (x1 : List PV) (i4 : Int) (x0 : List PV) (kn : Int → List PV → Prop) (k0 : Int → List PV → Prop) : Prop :=
  cond (decide ((IntKind.wrap .i64 (i4 + 32)) < (Int.ofNat l0n)))
  ((0 : Int) ≤ i4 ∧ i4 < (Int.ofNat l0n) ∧ elemAt x0 (0 + (Int.toNat i4)) fun e_31 => asBoolK e_31 fun b_32 => cond (!b_32)
  (kn (IntKind.wrap .i64 (i4 + 1)) x0)
  (L19_7 l0n d3n i4 0 x0 x1 (fun k5_43 x0_44 => kn (IntKind.wrap .i64 (i4 + 1)) x0_44)))
  (k0 i4 x0)
def R19_3 (l0n : Nat) (d3n : Nat) (x1 : List PV) (k0 : Int → List PV → Prop) : Nat → Int → List PV → Prop
  | 0, _, _ => False
  | n + 1, i4, x0 => S19_3 l0n d3n x1 i4 x0 (R19_3 l0n d3n x1 k0 n) k0
def L19_3 (l0n : Nat) (d3n : Nat) (i4 : Int) (x0 : List PV) (x1 : List PV) (k0 : Int → List PV → Prop) : Prop := ∃ n, R19_3 l0n d3n x1 k0 n i4 x0
def Q19_3 : LoopSem := fun t bs K =>
  consK t fun r1 r2 => slK0 0 4 r1 fun l0n => skipU 2 r2 fun r3 => consK r3 fun r4 r5 => slK0 1 4 r4 fun d3n => consK r5 fun r6 r7 => asIntK .i64 r6 fun i4 => skipU 39 r7 fun r8 => nilK r8 <| bConsK bs fun r9 r10 => bRowK true 4 r9 fun x0 => bConsK r10 fun r11 r12 => bRowK true 4 r11 fun x1 => bNilK r12 <| L19_3 l0n d3n i4 x0 x1 (fun z2 z3 => K (.exit 0) ((.sl 0 4 0 l0n) :: skU 2 ((.sl 1 4 0 d3n) :: (.int .i64 z2) :: skU 39 [])) [(.row true 4 z3), (.row true 4 x1)])
def B19 (n : Nat) (l : List PV) (k0 : Nat → Nat → List PV → Prop) : Prop :=
  B21 (fun r0n_29 x0_30 => L19_3 n r0n_29 0 l x0_30 (fun i4_45 x0_46 => 0 ≤ (IntKind.wrap .i64 ((Int.ofNat n) - 32)) ∧ (IntKind.wrap .i64 ((Int.ofNat n) - 32)) ≤ (Int.ofNat n) ∧ (Int.ofNat n) ≤ (Int.ofNat n) ∧ k0 (0 + (Int.toNat (IntKind.wrap .i64 ((Int.ofNat n) - 32)))) (n - (Int.toNat (IntKind.wrap .i64 ((Int.ofNat n) - 32)))) x0_46))
def P19 : FnSem := fun bs t K =>
  consK t fun r1 r2 => slK0 0 4 r1 fun n => nilK r2 <| bConsK bs fun r3 r4 => bRowK true 4 r3 fun l => bNilK r4 <| B19 n l (fun z0 z1 z2 => K [(.row true 4 z2)] [(.sl 0 4 z0 z1)])
def W19 : FnSem := fun bs t K => P19 bs (weakL [none] t) K
def T19 : List (FuncId × FnSem) := (18, W18) :: T18
def C19 : Ctx := ⟨pvT, pvG, lookΦ T19, pvRef, fun i => cond (Nat.beq i 3) (some Q19_3) (cond (Nat.beq i 7) (some Q19_7) (none)), fun _ => none, fun i => List.getD [[0], [0, 3], [0, 3, 4], [0, 3, 4, 11], [0, 3, 4], [0, 3, 4, 18], [0, 3, 4, 5], [0, 3, 4, 5, 20], [0, 3, 4, 5], [0, 3, 4, 5], [2]] i [], 1, true, fun i => List.getD [] i []⟩
theorem S19_7_eq (l0n : Nat) (d3n : Nat) (i4 : Int) (k5 : Int) (x0 : List PV) (x1 : List PV) (G : Ex → St → Prop) : evC C19 (codeOf Try.f19 [1, 1, 0, 1, 0, 0, 1, 0, 0, 1, 1, 0, 0]) (mkSt ((.sl 0 4 0 l0n) :: skU 2 ((.sl 1 4 0 d3n) :: (.int .i64 i4) :: (.int .i64 k5) :: skU 38 [])) [(.row true 4 x0), (.row true 4 x1)]) G = S19_7 l0n d3n i4 x1 k5 x0 (fun k5 x0 => G .normal (mkSt ((.sl 0 4 0 l0n) :: skU 2 ((.sl 1 4 0 d3n) :: (.int .i64 i4) :: (.int .i64 k5) :: skU 38 [])) [(.row true 4 x0), (.row true 4 x1)])) (fun z3 z4 => G (.exit 2) (mkSt ((.sl 0 4 0 l0n) :: skU 2 ((.sl 1 4 0 d3n) :: (.int .i64 i4) :: (.int .i64 z3) :: skU 38 [])) [(.row true 4 z4), (.row true 4 x1)])) := by kernel_rfl
theorem R19_7_eq (l0n : Nat) (d3n : Nat) (i4 : Int) (x1 : List PV) (G : Ex → St → Prop) : ∀ (n : Nat) (k5 : Int) (x0 : List PV), evLoop C19 (codeOf Try.f19 [1, 1, 0, 1, 0, 0, 1, 0, 0, 1, 1, 0, 0]) n (mkSt ((.sl 0 4 0 l0n) :: skU 2 ((.sl 1 4 0 d3n) :: (.int .i64 i4) :: (.int .i64 k5) :: skU 38 [])) [(.row true 4 x0), (.row true 4 x1)]) G = R19_7 l0n d3n i4 x1 (fun z3 z4 => G (.exit 2) (mkSt ((.sl 0 4 0 l0n) :: skU 2 ((.sl 1 4 0 d3n) :: (.int .i64 i4) :: (.int .i64 z3) :: skU 38 [])) [(.row true 4 z4), (.row true 4 x1)])) n k5 x0
  | 0, _, _ => rfl
  | n + 1, k5, x0 => (S19_7_eq l0n d3n i4 k5 x0 x1 (fun e s => match e with | .normal => evLoop C19 (codeOf Try.f19 [1, 1, 0, 1, 0, 0, 1, 0, 0, 1, 1, 0, 0]) n s G | .exit id => G (.exit id) s | .ret => G .ret s)).trans (congrArg (fun q => S19_7 l0n d3n i4 x1 k5 x0 q (fun z3 z4 => G (.exit 2) (mkSt ((.sl 0 4 0 l0n) :: skU 2 ((.sl 1 4 0 d3n) :: (.int .i64 i4) :: (.int .i64 z3) :: skU 38 [])) [(.row true 4 z4), (.row true 4 x1)]))) (funext fun k5 => funext fun x0 => R19_7_eq l0n d3n i4 x1 G n k5 x0))
theorem Q19_7_ok : LoopOk C19 (codeOf Try.f19 [1, 1, 0, 1, 0, 0, 1, 0, 0, 1, 1, 0, 0]) := LoopOk.of (l := Q19_7) (by kernel_rfl) (fun t bs K h0 => by
    unfold Q19_7 at h0
    obtain ⟨r1, r2, rfl, h1⟩ := consK_inv h0
    obtain ⟨l0n, rfl, h2⟩ := slK0_inv h1
    obtain ⟨r3, rfl, h3⟩ := skipU_inv h2
    obtain ⟨r4, r5, rfl, h4⟩ := consK_inv h3
    obtain ⟨d3n, rfl, h5⟩ := slK0_inv h4
    obtain ⟨r6, r7, rfl, h6⟩ := consK_inv h5
    obtain ⟨i4, rfl, h7⟩ := asIntK_inv h6
    obtain ⟨r8, r9, rfl, h8⟩ := consK_inv h7
    obtain ⟨k5, rfl, h9⟩ := asIntK_inv h8
    obtain ⟨r10, rfl, h10⟩ := skipU_inv h9
    obtain ⟨rfl, h11⟩ := nilK_inv h10
    obtain ⟨r11, r12, rfl, h12⟩ := bConsK_inv h11
    obtain ⟨x0, rfl, h13⟩ := bRowK_inv h12
    obtain ⟨r13, r14, rfl, h14⟩ := bConsK_inv h13
    obtain ⟨x1, rfl, h15⟩ := bRowK_inv h14
    obtain ⟨rfl, h16⟩ := bNilK_inv h15
    have h := h16
    obtain ⟨n, hn⟩ := h
    exact ⟨n, Eq.mpr (R19_7_eq l0n d3n i4 x1 (onSt K) n k5 x0) hn⟩)
theorem S19_3_eq (l0n : Nat) (d3n : Nat) (i4 : Int) (x0 : List PV) (x1 : List PV) (G : Ex → St → Prop) : evC C19 (codeOf Try.f19 [1, 1, 0, 1, 0, 0]) (mkSt ((.sl 0 4 0 l0n) :: skU 2 ((.sl 1 4 0 d3n) :: (.int .i64 i4) :: skU 39 [])) [(.row true 4 x0), (.row true 4 x1)]) G = S19_3 l0n d3n x1 i4 x0 (fun i4 x0 => G .normal (mkSt ((.sl 0 4 0 l0n) :: skU 2 ((.sl 1 4 0 d3n) :: (.int .i64 i4) :: skU 39 [])) [(.row true 4 x0), (.row true 4 x1)])) (fun z2 z3 => G (.exit 0) (mkSt ((.sl 0 4 0 l0n) :: skU 2 ((.sl 1 4 0 d3n) :: (.int .i64 z2) :: skU 39 [])) [(.row true 4 z3), (.row true 4 x1)])) := by kernel_rfl
theorem R19_3_eq (l0n : Nat) (d3n : Nat) (x1 : List PV) (G : Ex → St → Prop) : ∀ (n : Nat) (i4 : Int) (x0 : List PV), evLoop C19 (codeOf Try.f19 [1, 1, 0, 1, 0, 0]) n (mkSt ((.sl 0 4 0 l0n) :: skU 2 ((.sl 1 4 0 d3n) :: (.int .i64 i4) :: skU 39 [])) [(.row true 4 x0), (.row true 4 x1)]) G = R19_3 l0n d3n x1 (fun z2 z3 => G (.exit 0) (mkSt ((.sl 0 4 0 l0n) :: skU 2 ((.sl 1 4 0 d3n) :: (.int .i64 z2) :: skU 39 [])) [(.row true 4 z3), (.row true 4 x1)])) n i4 x0
  | 0, _, _ => rfl
  | n + 1, i4, x0 => (S19_3_eq l0n d3n i4 x0 x1 (fun e s => match e with | .normal => evLoop C19 (codeOf Try.f19 [1, 1, 0, 1, 0, 0]) n s G | .exit id => G (.exit id) s | .ret => G .ret s)).trans (congrArg (fun q => S19_3 l0n d3n x1 i4 x0 q (fun z2 z3 => G (.exit 0) (mkSt ((.sl 0 4 0 l0n) :: skU 2 ((.sl 1 4 0 d3n) :: (.int .i64 z2) :: skU 39 [])) [(.row true 4 z3), (.row true 4 x1)]))) (funext fun i4 => funext fun x0 => R19_3_eq l0n d3n x1 G n i4 x0))
theorem Q19_3_ok : LoopOk C19 (codeOf Try.f19 [1, 1, 0, 1, 0, 0]) := LoopOk.of (l := Q19_3) (by kernel_rfl) (fun t bs K h0 => by
    unfold Q19_3 at h0
    obtain ⟨r1, r2, rfl, h1⟩ := consK_inv h0
    obtain ⟨l0n, rfl, h2⟩ := slK0_inv h1
    obtain ⟨r3, rfl, h3⟩ := skipU_inv h2
    obtain ⟨r4, r5, rfl, h4⟩ := consK_inv h3
    obtain ⟨d3n, rfl, h5⟩ := slK0_inv h4
    obtain ⟨r6, r7, rfl, h6⟩ := consK_inv h5
    obtain ⟨i4, rfl, h7⟩ := asIntK_inv h6
    obtain ⟨r8, rfl, h8⟩ := skipU_inv h7
    obtain ⟨rfl, h9⟩ := nilK_inv h8
    obtain ⟨r9, r10, rfl, h10⟩ := bConsK_inv h9
    obtain ⟨x0, rfl, h11⟩ := bRowK_inv h10
    obtain ⟨r11, r12, rfl, h12⟩ := bConsK_inv h11
    obtain ⟨x1, rfl, h13⟩ := bRowK_inv h12
    obtain ⟨rfl, h14⟩ := bNilK_inv h13
    have h := h14
    obtain ⟨n, hn⟩ := h
    exact ⟨n, Eq.mpr (R19_3_eq l0n d3n x1 (onSt K) n i4 x0) hn⟩)
theorem B19_eq (n : Nat) (l : List PV) (K : List Blk → List PV → Prop) : evF C19 Try.f19 [(.row true 4 l)] [(.sl 0 4 0 n)] K = (([(.row true 4 l)] : List Blk).length = 1 ∧ B19 n l (fun z0 z1 z2 => K [(.row true 4 z2)] [(.sl 0 4 z0 z1)])) := by kernel_rfl
theorem T19_ok : AllSound Try.prog pvT pvG T19 := ⟨⟨W18_ok, fun a w => Try.call18 a w⟩, T18_ok⟩
theorem W19_ok : Sound Try.prog pvT pvG 19 W19 := Sound.weak (evF_sound (C := C19) (Base.of pvT_fits pvT_sized pvT_eq T19_ok pvMixed) Try.func19 (LoopsOk.of_loops (l := [codeOf Try.f19 [1, 1, 0, 1, 0, 0], codeOf Try.f19 [1, 1, 0, 1, 0, 0, 1, 0, 0, 1, 1, 0, 0]]) rfl (by kernel_rfl) ⟨Q19_3_ok, ⟨Q19_7_ok, trivial⟩⟩) (fun bs t K h0 => by
    unfold P19 at h0
    obtain ⟨r1, r2, rfl, h1⟩ := consK_inv h0
    obtain ⟨n, rfl, h2⟩ := slK0_inv h1
    obtain ⟨rfl, h3⟩ := nilK_inv h2
    obtain ⟨r3, r4, rfl, h4⟩ := bConsK_inv h3
    obtain ⟨l, rfl, h5⟩ := bRowK_inv h4
    obtain ⟨rfl, h6⟩ := bNilK_inv h5
    have h := h6
    exact Eq.mpr (B19_eq n l K) ⟨rfl, h⟩)) _
def S11_3 (l3n : Nat) (i4 : Int) (x0 : List PV) (kn : Nat → Int → List PV → Prop) (k0 : Nat → Int → List PV → Prop) : Prop :=
  cond (decide (i4 < 32))
  (0 + 1 ≤ (List.length (α := PV) [(.bool false)]) ∧ l3n = (List.length (α := PV) x0) ∧ (l3n + (List.length (α := PV) (rowPart [(.bool false)] 0 1))) * 1 ≤ maxRoom ∧ kn (l3n + (List.length (α := PV) (rowPart [(.bool false)] 0 1))) (IntKind.wrap .i64 (i4 + 1)) (x0 ++ (rowPart [(.bool false)] 0 1)))
  (k0 l3n i4 x0)
def R11_3 (k0 : Nat → Int → List PV → Prop) : Nat → Nat → Int → List PV → Prop
  | 0, _, _, _ => False
  | n + 1, l3n, i4, x0 => S11_3  l3n i4 x0 (R11_3  k0 n) k0
def L11_3 (l3n : Nat) (i4 : Int) (x0 : List PV) (k0 : Nat → Int → List PV → Prop) : Prop := ∃ n, R11_3  k0 n l3n i4 x0
def Q11_3 : LoopSem := fun t bs K =>
  skipU 3 t fun r1 => consK r1 fun r2 r3 => slK0 0 4 r2 fun l3n => consK r3 fun r4 r5 => asIntK .i64 r4 fun i4 => skipU 42 r5 fun r6 => nilK r6 <| bConsK bs fun r7 r8 => bRowK true 4 r7 fun x0 => bNilK r8 <| L11_3 l3n i4 x0 (fun z0 z1 z2 => K (.exit 0) (skU 3 ((.sl 0 4 0 z0) :: (.int .i64 z1) :: skU 42 [])) [(.row true 4 z2)])
def S11_7 (l3n : Nat) (i5 : Int) (x0 : List PV) (kn : Int → List PV → Prop) (k0 : Int → List PV → Prop) : Prop :=
  cond (decide (i5 < 32))
  ((0 : Int) ≤ i5 ∧ i5 < (Int.ofNat l3n) ∧ elemAt x0 (0 + (Int.toNat i5)) fun e_52 => asBoolK e_52 fun b_53 => (0 : Int) ≤ i5 ∧ i5 < (Int.ofNat l3n) ∧ elemAt x0 (0 + (Int.toNat i5)) fun _ => kn (IntKind.wrap .i64 (i5 + 1)) (List.set x0 (0 + (Int.toNat i5)) (.bool (!b_53))))
  (k0 i5 x0)
def R11_7 (l3n : Nat) (k0 : Int → List PV → Prop) : Nat → Int → List PV → Prop
  | 0, _, _ => False
  | n + 1, i5, x0 => S11_7 l3n i5 x0 (R11_7 l3n k0 n) k0
def L11_7 (l3n : Nat) (i5 : Int) (x0 : List PV) (k0 : Int → List PV → Prop) : Prop := ∃ n, R11_7 l3n k0 n i5 x0
def Q11_7 : LoopSem := fun t bs K =>
  skipU 3 t fun r1 => consK r1 fun r2 r3 => slK0 0 4 r2 fun l3n => skipU 1 r3 fun r4 => consK r4 fun r5 r6 => asIntK .i64 r5 fun i5 => skipU 41 r6 fun r7 => nilK r7 <| bConsK bs fun r8 r9 => bRowK true 4 r8 fun x0 => bNilK r9 <| L11_7 l3n i5 x0 (fun z1 z2 => K (.exit 2) (skU 3 ((.sl 0 4 0 l3n) :: skU 1 ((.int .i64 z1) :: skU 41 []))) [(.row true 4 z2)])
def S11_13 (r6i : Nat) (r6n : Nat) (x0 : List PV) (n7 : Int) (i8 : Int) (kn : Int → Int → Prop) (k0 : Int → Int → Prop) : Prop :=
  cond (decide (i8 < 32))
  ((0 : Int) ≤ i8 ∧ i8 < (Int.ofNat r6n) ∧ elemAt x0 (r6i + (Int.toNat i8)) fun e_60 => asBoolK e_60 fun b_61 => cond (!b_61)
  (0 ≤ (IntKind.wrap .u64 i8) ∧ kn (IntKind.wrap .u32 (n7 + (IntKind.wrap .u32 (1 * 2 ^ (min (Int.toNat (IntKind.wrap .u64 i8)) 32))))) (IntKind.wrap .i64 (i8 + 1)))
  (kn n7 (IntKind.wrap .i64 (i8 + 1))))
  (k0 n7 i8)
def R11_13 (r6i : Nat) (r6n : Nat) (x0 : List PV) (k0 : Int → Int → Prop) : Nat → Int → Int → Prop
  | 0, _, _ => False
  | n + 1, n7, i8 => S11_13 r6i r6n x0 n7 i8 (R11_13 r6i r6n x0 k0 n) k0
def L11_13 (r6i : Nat) (r6n : Nat) (n7 : Int) (i8 : Int) (x0 : List PV) (k0 : Int → Int → Prop) : Prop := ∃ n, R11_13 r6i r6n x0 k0 n n7 i8
def Q11_13 : LoopSem := fun t bs K =>
  skipU 6 t fun r1 => consK r1 fun r2 r3 => slK 0 4 r2 fun r6i r6n => consK r3 fun r4 r5 => asIntK .u32 r4 fun n7 => consK r5 fun r6 r7 => asIntK .i64 r6 fun i8 => skipU 38 r7 fun r8 => nilK r8 <| bConsK bs fun r9 r10 => bRowK true 4 r9 fun x0 => bNilK r10 <| L11_13 r6i r6n n7 i8 x0 (fun z2 z3 => K (.exit 4) (skU 6 ((.sl 0 4 r6i r6n) :: (.int .u32 z2) :: (.int .i64 z3) :: skU 38 [])) [(.row true 4 x0)])
def B11 (b0 : List PV) (k0 : Int → Prop) : Prop :=
  B18 b0 (fun r0n_47 x0_48 => L11_3 r0n_47 0 x0_48 (fun l3n_49 i4_50 x0_51 => L11_7 l3n_49 0 x0_51 (fun i5_55 x0_56 => B19 l3n_49 x0_56 (fun r0i_57 r0n_58 x0_59 => L11_13 r0i_57 r0n_58 0 0 x0_59 (fun n7_62 i8_63 => k0 n7_62)))))
def P11 : FnSem := fun bs t K =>
  consK t fun r1 r2 => asListK 5 r1 fun b0 => nilK r2 <| bNilK bs <| B11 b0 (fun z0 => K [] [(.int .u32 z0)])
def W11 : FnSem := fun bs t K => P11 bs (weakL [some 5] t) K
def T11 : List (FuncId × FnSem) := (19, W19) :: T19
def C11 : Ctx := ⟨pvT, pvG, lookΦ T11, pvRef, fun i => cond (Nat.beq i 13) (some Q11_13) (cond (Nat.beq i 7) (some Q11_7) (cond (Nat.beq i 3) (some Q11_3) (none))), fun _ => none, fun i => List.getD [[0], [3], [3, 4], [3, 4, 12], [3, 4], [3, 4], [3, 5], [3, 5, 19], [3, 5], [3, 5], [6], [6, 7], [6, 7, 8], [6, 7, 8, 33], [6, 7, 8], [6, 7, 8, 40], [6, 7, 8], [2]] i [], 0, true, fun i => List.getD [] i []⟩
theorem S11_3_eq (l3n : Nat) (i4 : Int) (x0 : List PV) (G : Ex → St → Prop) : evC C11 (codeOf Try.f11 [1, 1, 0, 1, 0, 0]) (mkSt (skU 3 ((.sl 0 4 0 l3n) :: (.int .i64 i4) :: skU 42 [])) [(.row true 4 x0)]) G = S11_3  l3n i4 x0 (fun l3n i4 x0 => G .normal (mkSt (skU 3 ((.sl 0 4 0 l3n) :: (.int .i64 i4) :: skU 42 [])) [(.row true 4 x0)])) (fun z0 z1 z2 => G (.exit 0) (mkSt (skU 3 ((.sl 0 4 0 z0) :: (.int .i64 z1) :: skU 42 [])) [(.row true 4 z2)])) := by kernel_rfl
theorem R11_3_eq (G : Ex → St → Prop) : ∀ (n : Nat) (l3n : Nat) (i4 : Int) (x0 : List PV), evLoop C11 (codeOf Try.f11 [1, 1, 0, 1, 0, 0]) n (mkSt (skU 3 ((.sl 0 4 0 l3n) :: (.int .i64 i4) :: skU 42 [])) [(.row true 4 x0)]) G = R11_3  (fun z0 z1 z2 => G (.exit 0) (mkSt (skU 3 ((.sl 0 4 0 z0) :: (.int .i64 z1) :: skU 42 [])) [(.row true 4 z2)])) n l3n i4 x0
  | 0, _, _, _ => rfl
  | n + 1, l3n, i4, x0 => (S11_3_eq l3n i4 x0 (fun e s => match e with | .normal => evLoop C11 (codeOf Try.f11 [1, 1, 0, 1, 0, 0]) n s G | .exit id => G (.exit id) s | .ret => G .ret s)).trans (congrArg (fun q => S11_3  l3n i4 x0 q (fun z0 z1 z2 => G (.exit 0) (mkSt (skU 3 ((.sl 0 4 0 z0) :: (.int .i64 z1) :: skU 42 [])) [(.row true 4 z2)]))) (funext fun l3n => funext fun i4 => funext fun x0 => R11_3_eq  G n l3n i4 x0))
theorem Q11_3_ok : LoopOk C11 (codeOf Try.f11 [1, 1, 0, 1, 0, 0]) := LoopOk.of (l := Q11_3) (by kernel_rfl) (fun t bs K h0 => by
    unfold Q11_3 at h0
    obtain ⟨r1, rfl, h1⟩ := skipU_inv h0
    obtain ⟨r2, r3, rfl, h2⟩ := consK_inv h1
    obtain ⟨l3n, rfl, h3⟩ := slK0_inv h2
    obtain ⟨r4, r5, rfl, h4⟩ := consK_inv h3
    obtain ⟨i4, rfl, h5⟩ := asIntK_inv h4
    obtain ⟨r6, rfl, h6⟩ := skipU_inv h5
    obtain ⟨rfl, h7⟩ := nilK_inv h6
    obtain ⟨r7, r8, rfl, h8⟩ := bConsK_inv h7
    obtain ⟨x0, rfl, h9⟩ := bRowK_inv h8
    obtain ⟨rfl, h10⟩ := bNilK_inv h9
    have h := h10
    obtain ⟨n, hn⟩ := h
    exact ⟨n, Eq.mpr (R11_3_eq  (onSt K) n l3n i4 x0) hn⟩)
theorem S11_7_eq (l3n : Nat) (i5 : Int) (x0 : List PV) (G : Ex → St → Prop) : evC C11 (codeOf Try.f11 [1, 1, 1, 0, 1, 0, 0]) (mkSt (skU 3 ((.sl 0 4 0 l3n) :: skU 1 ((.int .i64 i5) :: skU 41 []))) [(.row true 4 x0)]) G = S11_7 l3n i5 x0 (fun i5 x0 => G .normal (mkSt (skU 3 ((.sl 0 4 0 l3n) :: skU 1 ((.int .i64 i5) :: skU 41 []))) [(.row true 4 x0)])) (fun z1 z2 => G (.exit 2) (mkSt (skU 3 ((.sl 0 4 0 l3n) :: skU 1 ((.int .i64 z1) :: skU 41 []))) [(.row true 4 z2)])) := by kernel_rfl
theorem R11_7_eq (l3n : Nat) (G : Ex → St → Prop) : ∀ (n : Nat) (i5 : Int) (x0 : List PV), evLoop C11 (codeOf Try.f11 [1, 1, 1, 0, 1, 0, 0]) n (mkSt (skU 3 ((.sl 0 4 0 l3n) :: skU 1 ((.int .i64 i5) :: skU 41 []))) [(.row true 4 x0)]) G = R11_7 l3n (fun z1 z2 => G (.exit 2) (mkSt (skU 3 ((.sl 0 4 0 l3n) :: skU 1 ((.int .i64 z1) :: skU 41 []))) [(.row true 4 z2)])) n i5 x0
  | 0, _, _ => rfl
  | n + 1, i5, x0 => (S11_7_eq l3n i5 x0 (fun e s => match e with | .normal => evLoop C11 (codeOf Try.f11 [1, 1, 1, 0, 1, 0, 0]) n s G | .exit id => G (.exit id) s | .ret => G .ret s)).trans (congrArg (fun q => S11_7 l3n i5 x0 q (fun z1 z2 => G (.exit 2) (mkSt (skU 3 ((.sl 0 4 0 l3n) :: skU 1 ((.int .i64 z1) :: skU 41 []))) [(.row true 4 z2)]))) (funext fun i5 => funext fun x0 => R11_7_eq l3n G n i5 x0))
theorem Q11_7_ok : LoopOk C11 (codeOf Try.f11 [1, 1, 1, 0, 1, 0, 0]) := LoopOk.of (l := Q11_7) (by kernel_rfl) (fun t bs K h0 => by
    unfold Q11_7 at h0
    obtain ⟨r1, rfl, h1⟩ := skipU_inv h0
    obtain ⟨r2, r3, rfl, h2⟩ := consK_inv h1
    obtain ⟨l3n, rfl, h3⟩ := slK0_inv h2
    obtain ⟨r4, rfl, h4⟩ := skipU_inv h3
    obtain ⟨r5, r6, rfl, h5⟩ := consK_inv h4
    obtain ⟨i5, rfl, h6⟩ := asIntK_inv h5
    obtain ⟨r7, rfl, h7⟩ := skipU_inv h6
    obtain ⟨rfl, h8⟩ := nilK_inv h7
    obtain ⟨r8, r9, rfl, h9⟩ := bConsK_inv h8
    obtain ⟨x0, rfl, h10⟩ := bRowK_inv h9
    obtain ⟨rfl, h11⟩ := bNilK_inv h10
    have h := h11
    obtain ⟨n, hn⟩ := h
    exact ⟨n, Eq.mpr (R11_7_eq l3n (onSt K) n i5 x0) hn⟩)
theorem S11_13_eq (r6i : Nat) (r6n : Nat) (n7 : Int) (i8 : Int) (x0 : List PV) (G : Ex → St → Prop) : evC C11 (codeOf Try.f11 [1, 1, 1, 1, 1, 1, 0, 1, 0, 0]) (mkSt (skU 6 ((.sl 0 4 r6i r6n) :: (.int .u32 n7) :: (.int .i64 i8) :: skU 38 [])) [(.row true 4 x0)]) G = S11_13 r6i r6n x0 n7 i8 (fun n7 i8 => G .normal (mkSt (skU 6 ((.sl 0 4 r6i r6n) :: (.int .u32 n7) :: (.int .i64 i8) :: skU 38 [])) [(.row true 4 x0)])) (fun z2 z3 => G (.exit 4) (mkSt (skU 6 ((.sl 0 4 r6i r6n) :: (.int .u32 z2) :: (.int .i64 z3) :: skU 38 [])) [(.row true 4 x0)])) := by kernel_rfl
theorem R11_13_eq (r6i : Nat) (r6n : Nat) (x0 : List PV) (G : Ex → St → Prop) : ∀ (n : Nat) (n7 : Int) (i8 : Int), evLoop C11 (codeOf Try.f11 [1, 1, 1, 1, 1, 1, 0, 1, 0, 0]) n (mkSt (skU 6 ((.sl 0 4 r6i r6n) :: (.int .u32 n7) :: (.int .i64 i8) :: skU 38 [])) [(.row true 4 x0)]) G = R11_13 r6i r6n x0 (fun z2 z3 => G (.exit 4) (mkSt (skU 6 ((.sl 0 4 r6i r6n) :: (.int .u32 z2) :: (.int .i64 z3) :: skU 38 [])) [(.row true 4 x0)])) n n7 i8
  | 0, _, _ => rfl
  | n + 1, n7, i8 => (S11_13_eq r6i r6n n7 i8 x0 (fun e s => match e with | .normal => evLoop C11 (codeOf Try.f11 [1, 1, 1, 1, 1, 1, 0, 1, 0, 0]) n s G | .exit id => G (.exit id) s | .ret => G .ret s)).trans (congrArg (fun q => S11_13 r6i r6n x0 n7 i8 q (fun z2 z3 => G (.exit 4) (mkSt (skU 6 ((.sl 0 4 r6i r6n) :: (.int .u32 z2) :: (.int .i64 z3) :: skU 38 [])) [(.row true 4 x0)]))) (funext fun n7 => funext fun i8 => R11_13_eq r6i r6n x0 G n n7 i8))
theorem Q11_13_ok : LoopOk C11 (codeOf Try.f11 [1, 1, 1, 1, 1, 1, 0, 1, 0, 0]) := LoopOk.of (l := Q11_13) (by kernel_rfl) (fun t bs K h0 => by
    unfold Q11_13 at h0
    obtain ⟨r1, rfl, h1⟩ := skipU_inv h0
    obtain ⟨r2, r3, rfl, h2⟩ := consK_inv h1
    obtain ⟨r6i, r6n, rfl, h3⟩ := slK_inv h2
    obtain ⟨r4, r5, rfl, h4⟩ := consK_inv h3
    obtain ⟨n7, rfl, h5⟩ := asIntK_inv h4
    obtain ⟨r6, r7, rfl, h6⟩ := consK_inv h5
    obtain ⟨i8, rfl, h7⟩ := asIntK_inv h6
    obtain ⟨r8, rfl, h8⟩ := skipU_inv h7
    obtain ⟨rfl, h9⟩ := nilK_inv h8
    obtain ⟨r9, r10, rfl, h10⟩ := bConsK_inv h9
    obtain ⟨x0, rfl, h11⟩ := bRowK_inv h10
    obtain ⟨rfl, h12⟩ := bNilK_inv h11
    have h := h12
    obtain ⟨n, hn⟩ := h
    exact ⟨n, Eq.mpr (R11_13_eq r6i r6n x0 (onSt K) n n7 i8) hn⟩)
theorem B11_eq (b0 : List PV) (K : List Blk → List PV → Prop) : evF C11 Try.f11 [] [(.list 5 b0)] K = (([] : List Blk).length = 0 ∧ B11 b0 (fun z0 => K [] [(.int .u32 z0)])) := by kernel_rfl
theorem T11_ok : AllSound Try.prog pvT pvG T11 := ⟨⟨W19_ok, fun a w => Try.call19 a w⟩, T19_ok⟩
theorem W11_ok : Sound Try.prog pvT pvG 11 W11 := Sound.weak (evF_sound (C := C11) (Base.of pvT_fits pvT_sized pvT_eq T11_ok pvMixed) Try.func11 (LoopsOk.of_loops (l := [codeOf Try.f11 [1, 1, 0, 1, 0, 0], codeOf Try.f11 [1, 1, 1, 0, 1, 0, 0], codeOf Try.f11 [1, 1, 1, 1, 1, 1, 0, 1, 0, 0]]) rfl (by kernel_rfl) ⟨Q11_3_ok, ⟨Q11_7_ok, ⟨Q11_13_ok, trivial⟩⟩⟩) (fun bs t K h0 => by
    unfold P11 at h0
    obtain ⟨r1, r2, rfl, h1⟩ := consK_inv h0
    obtain ⟨b0, rfl, h2⟩ := asListK_inv h1
    obtain ⟨rfl, h3⟩ := nilK_inv h2
    obtain ⟨rfl, h4⟩ := bNilK_inv h3
    have h := h4
    exact Eq.mpr (B11_eq b0 K) ⟨rfl, h⟩)) _
def S16_3 (sum4 : Int) (out3n : Nat) (t10 : Int) (x0 : List PV) (kn : Nat → Int → List PV → Prop) (k0 : Nat → Int → List PV → Prop) : Prop :=
  cond (decide (t10 < 4))
  (0 ≤ (IntKind.wrap .i64 (8 * t10)) ∧ 0 + 1 ≤ (List.length (α := PV) [(.int .u8 (IntKind.wrap .u8 (Int.fdiv sum4 (2 ^ (min (Int.toNat (IntKind.wrap .i64 (8 * t10))) 32)))))]) ∧ out3n = (List.length (α := PV) x0) ∧ (out3n + (List.length (α := PV) (rowPart [(.int .u8 (IntKind.wrap .u8 (Int.fdiv sum4 (2 ^ (min (Int.toNat (IntKind.wrap .i64 (8 * t10))) 32)))))] 0 1))) * 1 ≤ maxRoom ∧ kn (out3n + (List.length (α := PV) (rowPart [(.int .u8 (IntKind.wrap .u8 (Int.fdiv sum4 (2 ^ (min (Int.toNat (IntKind.wrap .i64 (8 * t10))) 32)))))] 0 1))) (IntKind.wrap .i64 (t10 + 1)) (x0 ++ (rowPart [(.int .u8 (IntKind.wrap .u8 (Int.fdiv sum4 (2 ^ (min (Int.toNat (IntKind.wrap .i64 (8 * t10))) 32)))))] 0 1)))
  (k0 out3n t10 x0)
def R16_3 (sum4 : Int) (k0 : Nat → Int → List PV → Prop) : Nat → Nat → Int → List PV → Prop
  | 0, _, _, _ => False
  | n + 1, out3n, t10, x0 => S16_3 sum4 out3n t10 x0 (R16_3 sum4 k0 n) k0
def L16_3 (out3n : Nat) (sum4 : Int) (t10 : Int) (x0 : List PV) (k0 : Nat → Int → List PV → Prop) : Prop := ∃ n, R16_3 sum4 k0 n out3n t10 x0
def Q16_3 : LoopSem := fun t bs K =>
  skipU 3 t fun r1 => consK r1 fun r2 r3 => slK0 0 5 r2 fun out3n => consK r3 fun r4 r5 => asIntK .u32 r4 fun sum4 => skipU 5 r5 fun r6 => consK r6 fun r7 r8 => asIntK .i64 r7 fun t10 => skipU 12 r8 fun r9 => nilK r9 <| bConsK bs fun r10 r11 => bRowK true 5 r10 fun x0 => bNilK r11 <| L16_3 out3n sum4 t10 x0 (fun z0 z2 z3 => K (.exit 0) (skU 3 ((.sl 0 5 0 z0) :: (.int .u32 sum4) :: skU 5 ((.int .i64 z2) :: skU 12 []))) [(.row true 5 z3)])
def B16 (b0 : List PV) (k0 : Nat → List PV → Prop) : Prop :=
  B20 b0 (B10 b0 (fun r0_65 => L16_3 0 r0_65 0 [] (fun out3n_66 t10_67 x0_68 => k0 out3n_66 x0_68))) (fun r0n_69 x0_70 => B10 b0 (fun r0_71 => L16_3 r0n_69 r0_71 0 x0_70 (fun out3n_72 t10_73 x0_74 => k0 out3n_72 x0_74)))
def P16 : FnSem := fun bs t K =>
  consK t fun r1 r2 => asListK 5 r1 fun b0 => nilK r2 <| bNilK bs <| B16 b0 (fun z0 z1 => K [(.row true 5 z1)] [(.sl 0 5 0 z0)])
def W16 : FnSem := fun bs t K => P16 bs (weakL [some 5] t) K
def T16 : List (FuncId × FnSem) := (11, W11) :: T11
def C16 : Ctx := ⟨pvT, pvG, lookΦ T16, pvRef, fun i => cond (Nat.beq i 3) (some Q16_3) (none), fun _ => none, fun i => List.getD [[0], [3, 4], [3, 4, 10], [3, 4, 10, 11], [3, 4, 5, 10], [3, 4, 10], [3, 4, 10], [2]] i [], 0, true, fun i => List.getD [[], [], [(3, 5)], [], [], [], [], []] i []⟩
theorem S16_3_eq (out3n : Nat) (sum4 : Int) (t10 : Int) (x0 : List PV) (G : Ex → St → Prop) : evC C16 (codeOf Try.f16 [1, 1, 0, 1, 0, 0]) (mkSt (skU 3 ((.sl 0 5 0 out3n) :: (.int .u32 sum4) :: skU 5 ((.int .i64 t10) :: skU 12 []))) [(.row true 5 x0)]) G = S16_3 sum4 out3n t10 x0 (fun out3n t10 x0 => G .normal (mkSt (skU 3 ((.sl 0 5 0 out3n) :: (.int .u32 sum4) :: skU 5 ((.int .i64 t10) :: skU 12 []))) [(.row true 5 x0)])) (fun z0 z2 z3 => G (.exit 0) (mkSt (skU 3 ((.sl 0 5 0 z0) :: (.int .u32 sum4) :: skU 5 ((.int .i64 z2) :: skU 12 []))) [(.row true 5 z3)])) := by kernel_rfl
theorem R16_3_eq (sum4 : Int) (G : Ex → St → Prop) : ∀ (n : Nat) (out3n : Nat) (t10 : Int) (x0 : List PV), evLoop C16 (codeOf Try.f16 [1, 1, 0, 1, 0, 0]) n (mkSt (skU 3 ((.sl 0 5 0 out3n) :: (.int .u32 sum4) :: skU 5 ((.int .i64 t10) :: skU 12 []))) [(.row true 5 x0)]) G = R16_3 sum4 (fun z0 z2 z3 => G (.exit 0) (mkSt (skU 3 ((.sl 0 5 0 z0) :: (.int .u32 sum4) :: skU 5 ((.int .i64 z2) :: skU 12 []))) [(.row true 5 z3)])) n out3n t10 x0
  | 0, _, _, _ => rfl
  | n + 1, out3n, t10, x0 => (S16_3_eq out3n sum4 t10 x0 (fun e s => match e with | .normal => evLoop C16 (codeOf Try.f16 [1, 1, 0, 1, 0, 0]) n s G | .exit id => G (.exit id) s | .ret => G .ret s)).trans (congrArg (fun q => S16_3 sum4 out3n t10 x0 q (fun z0 z2 z3 => G (.exit 0) (mkSt (skU 3 ((.sl 0 5 0 z0) :: (.int .u32 sum4) :: skU 5 ((.int .i64 z2) :: skU 12 []))) [(.row true 5 z3)]))) (funext fun out3n => funext fun t10 => funext fun x0 => R16_3_eq sum4 G n out3n t10 x0))
theorem Q16_3_ok : LoopOk C16 (codeOf Try.f16 [1, 1, 0, 1, 0, 0]) := LoopOk.of (l := Q16_3) (by kernel_rfl) (fun t bs K h0 => by
    unfold Q16_3 at h0
    obtain ⟨r1, rfl, h1⟩ := skipU_inv h0
    obtain ⟨r2, r3, rfl, h2⟩ := consK_inv h1
    obtain ⟨out3n, rfl, h3⟩ := slK0_inv h2
    obtain ⟨r4, r5, rfl, h4⟩ := consK_inv h3
    obtain ⟨sum4, rfl, h5⟩ := asIntK_inv h4
    obtain ⟨r6, rfl, h6⟩ := skipU_inv h5
    obtain ⟨r7, r8, rfl, h7⟩ := consK_inv h6
    obtain ⟨t10, rfl, h8⟩ := asIntK_inv h7
    obtain ⟨r9, rfl, h9⟩ := skipU_inv h8
    obtain ⟨rfl, h10⟩ := nilK_inv h9
    obtain ⟨r10, r11, rfl, h11⟩ := bConsK_inv h10
    obtain ⟨x0, rfl, h12⟩ := bRowK_inv h11
    obtain ⟨rfl, h13⟩ := bNilK_inv h12
    have h := h13
    obtain ⟨n, hn⟩ := h
    exact ⟨n, Eq.mpr (R16_3_eq sum4 (onSt K) n out3n t10 x0) hn⟩)
theorem B16_eq (b0 : List PV) (K : List Blk → List PV → Prop) : evF C16 Try.f16 [] [(.list 5 b0)] K = (([] : List Blk).length = 0 ∧ B16 b0 (fun z0 z1 => K [(.row true 5 z1)] [(.sl 0 5 0 z0)])) := by kernel_rfl
theorem T16_ok : AllSound Try.prog pvT pvG T16 := ⟨⟨W11_ok, fun a w => Try.call11 a w⟩, T11_ok⟩
theorem W16_ok : Sound Try.prog pvT pvG 16 W16 := Sound.weak (evF_sound (C := C16) (Base.of pvT_fits pvT_sized pvT_eq T16_ok pvMixed) Try.func16 (LoopsOk.of_loops (l := [codeOf Try.f16 [1, 1, 0, 1, 0, 0]]) rfl (by kernel_rfl) ⟨Q16_3_ok, trivial⟩) (fun bs t K h0 => by
    unfold P16 at h0
    obtain ⟨r1, r2, rfl, h1⟩ := consK_inv h0
    obtain ⟨b0, rfl, h2⟩ := asListK_inv h1
    obtain ⟨rfl, h3⟩ := nilK_inv h2
    obtain ⟨rfl, h4⟩ := bNilK_inv h3
    have h := h4
    exact Eq.mpr (B16_eq b0 K) ⟨rfl, h⟩)) _
def S17_5 (out3n : Nat) (n4 : Int) (i5 : Int) (x0 : List PV) (kn : Nat → Int → Int → List PV → Prop) (k0 : Nat → Int → Int → List PV → Prop) : Prop :=
  cond (decide (i5 < 4))
  (256 ≠ (0 : Int) ∧ 0 + 1 ≤ (List.length (α := PV) [(.int .u8 (IntKind.wrap .u8 (Int.tmod n4 256)))]) ∧ out3n = (List.length (α := PV) x0) ∧ (out3n + (List.length (α := PV) (rowPart [(.int .u8 (IntKind.wrap .u8 (Int.tmod n4 256)))] 0 1))) * 1 ≤ maxRoom ∧ 256 ≠ (0 : Int) ∧ kn (out3n + (List.length (α := PV) (rowPart [(.int .u8 (IntKind.wrap .u8 (Int.tmod n4 256)))] 0 1))) (IntKind.wrap .u32 (Int.tdiv n4 256)) (IntKind.wrap .i64 (i5 + 1)) (x0 ++ (rowPart [(.int .u8 (IntKind.wrap .u8 (Int.tmod n4 256)))] 0 1)))
  (k0 out3n n4 i5 x0)
def R17_5 (k0 : Nat → Int → Int → List PV → Prop) : Nat → Nat → Int → Int → List PV → Prop
  | 0, _, _, _, _ => False
  | n + 1, out3n, n4, i5, x0 => S17_5  out3n n4 i5 x0 (R17_5  k0 n) k0
def L17_5 (out3n : Nat) (n4 : Int) (i5 : Int) (x0 : List PV) (k0 : Nat → Int → Int → List PV → Prop) : Prop := ∃ n, R17_5  k0 n out3n n4 i5 x0
def Q17_5 : LoopSem := fun t bs K =>
  skipU 3 t fun r1 => consK r1 fun r2 r3 => slK0 0 5 r2 fun out3n => consK r3 fun r4 r5 => asIntK .u32 r4 fun n4 => consK r5 fun r6 r7 => asIntK .i64 r6 fun i5 => skipU 18 r7 fun r8 => nilK r8 <| bConsK bs fun r9 r10 => bRowK true 5 r9 fun x0 => bNilK r10 <| L17_5 out3n n4 i5 x0 (fun z0 z1 z2 z3 => K (.exit 0) (skU 3 ((.sl 0 5 0 z0) :: (.int .u32 z1) :: (.int .i64 z2) :: skU 18 [])) [(.row true 5 z3)])
def B17 (b0 : List PV) (k0 : Nat → List PV → Prop) : Prop :=
  (List.length (α := PV) b0) * 1 ≤ maxRoom ∧ B11 b0 (fun r0_75 => L17_5 (List.length (α := PV) b0) r0_75 0 b0 (fun out3n_76 n4_77 i5_78 x0_79 => k0 out3n_76 x0_79))
def P17 : FnSem := fun bs t K =>
  consK t fun r1 r2 => asListK 5 r1 fun b0 => nilK r2 <| bNilK bs <| B17 b0 (fun z0 z1 => K [(.row true 5 z1)] [(.sl 0 5 0 z0)])
def W17 : FnSem := fun bs t K => P17 bs (weakL [some 5] t) K
def T17 : List (FuncId × FnSem) := (16, W16) :: T16
def C17 : Ctx := ⟨pvT, pvG, lookΦ T17, pvRef, fun i => cond (Nat.beq i 5) (some Q17_5) (none), fun _ => none, fun i => List.getD [[0], [0, 3], [0, 3], [3, 4], [3, 4, 5], [3, 4, 5, 12], [3, 4, 5], [3, 4, 5], [3, 4, 5], [2]] i [], 0, true, fun i => List.getD [] i []⟩
theorem S17_5_eq (out3n : Nat) (n4 : Int) (i5 : Int) (x0 : List PV) (G : Ex → St → Prop) : evC C17 (codeOf Try.f17 [1, 1, 1, 1, 0, 1, 0, 0]) (mkSt (skU 3 ((.sl 0 5 0 out3n) :: (.int .u32 n4) :: (.int .i64 i5) :: skU 18 [])) [(.row true 5 x0)]) G = S17_5  out3n n4 i5 x0 (fun out3n n4 i5 x0 => G .normal (mkSt (skU 3 ((.sl 0 5 0 out3n) :: (.int .u32 n4) :: (.int .i64 i5) :: skU 18 [])) [(.row true 5 x0)])) (fun z0 z1 z2 z3 => G (.exit 0) (mkSt (skU 3 ((.sl 0 5 0 z0) :: (.int .u32 z1) :: (.int .i64 z2) :: skU 18 [])) [(.row true 5 z3)])) := by kernel_rfl
theorem R17_5_eq (G : Ex → St → Prop) : ∀ (n : Nat) (out3n : Nat) (n4 : Int) (i5 : Int) (x0 : List PV), evLoop C17 (codeOf Try.f17 [1, 1, 1, 1, 0, 1, 0, 0]) n (mkSt (skU 3 ((.sl 0 5 0 out3n) :: (.int .u32 n4) :: (.int .i64 i5) :: skU 18 [])) [(.row true 5 x0)]) G = R17_5  (fun z0 z1 z2 z3 => G (.exit 0) (mkSt (skU 3 ((.sl 0 5 0 z0) :: (.int .u32 z1) :: (.int .i64 z2) :: skU 18 [])) [(.row true 5 z3)])) n out3n n4 i5 x0
  | 0, _, _, _, _ => rfl
  | n + 1, out3n, n4, i5, x0 => (S17_5_eq out3n n4 i5 x0 (fun e s => match e with | .normal => evLoop C17 (codeOf Try.f17 [1, 1, 1, 1, 0, 1, 0, 0]) n s G | .exit id => G (.exit id) s | .ret => G .ret s)).trans (congrArg (fun q => S17_5  out3n n4 i5 x0 q (fun z0 z1 z2 z3 => G (.exit 0) (mkSt (skU 3 ((.sl 0 5 0 z0) :: (.int .u32 z1) :: (.int .i64 z2) :: skU 18 [])) [(.row true 5 z3)]))) (funext fun out3n => funext fun n4 => funext fun i5 => funext fun x0 => R17_5_eq  G n out3n n4 i5 x0))
theorem Q17_5_ok : LoopOk C17 (codeOf Try.f17 [1, 1, 1, 1, 0, 1, 0, 0]) := LoopOk.of (l := Q17_5) (by kernel_rfl) (fun t bs K h0 => by
    unfold Q17_5 at h0
    obtain ⟨r1, rfl, h1⟩ := skipU_inv h0
    obtain ⟨r2, r3, rfl, h2⟩ := consK_inv h1
    obtain ⟨out3n, rfl, h3⟩ := slK0_inv h2
    obtain ⟨r4, r5, rfl, h4⟩ := consK_inv h3
    obtain ⟨n4, rfl, h5⟩ := asIntK_inv h4
    obtain ⟨r6, r7, rfl, h6⟩ := consK_inv h5
    obtain ⟨i5, rfl, h7⟩ := asIntK_inv h6
    obtain ⟨r8, rfl, h8⟩ := skipU_inv h7
    obtain ⟨rfl, h9⟩ := nilK_inv h8
    obtain ⟨r9, r10, rfl, h10⟩ := bConsK_inv h9
    obtain ⟨x0, rfl, h11⟩ := bRowK_inv h10
    obtain ⟨rfl, h12⟩ := bNilK_inv h11
    have h := h12
    obtain ⟨n, hn⟩ := h
    exact ⟨n, Eq.mpr (R17_5_eq  (onSt K) n out3n n4 i5 x0) hn⟩)
theorem B17_eq (b0 : List PV) (K : List Blk → List PV → Prop) : evF C17 Try.f17 [] [(.list 5 b0)] K = (([] : List Blk).length = 0 ∧ B17 b0 (fun z0 z1 => K [(.row true 5 z1)] [(.sl 0 5 0 z0)])) := by kernel_rfl
theorem T17_ok : AllSound Try.prog pvT pvG T17 := ⟨⟨W16_ok, fun a w => Try.call16 a w⟩, T16_ok⟩
theorem W17_ok : Sound Try.prog pvT pvG 17 W17 := Sound.weak (evF_sound (C := C17) (Base.of pvT_fits pvT_sized pvT_eq T17_ok pvMixed) Try.func17 (LoopsOk.of_loops (l := [codeOf Try.f17 [1, 1, 1, 1, 0, 1, 0, 0]]) rfl (by kernel_rfl) ⟨Q17_5_ok, trivial⟩) (fun bs t K h0 => by
    unfold P17 at h0
    obtain ⟨r1, r2, rfl, h1⟩ := consK_inv h0
    obtain ⟨b0, rfl, h2⟩ := asListK_inv h1
    obtain ⟨rfl, h3⟩ := nilK_inv h2
    obtain ⟨rfl, h4⟩ := bNilK_inv h3
    have h := h4
    exact Eq.mpr (B17_eq b0 K) ⟨rfl, h⟩)) _
def B14 (b0 : List PV) (k0 : Bool → Prop) (k1 : Nat → Bool → List PV → Prop) : Prop :=
  cond (decide ((Int.ofNat (List.length (α := PV) b0)) < 4))
  (k0 false)
  (0 ≤ (0 : Int) ∧ (0 : Int) ≤ (IntKind.wrap .i64 ((Int.ofNat (List.length (α := PV) b0)) - 4)) ∧ (IntKind.wrap .i64 ((Int.ofNat (List.length (α := PV) b0)) - 4)) ≤ (Int.ofNat (List.length (α := PV) b0)) ∧ B20 (cutL b0 0 (Int.toNat (IntKind.wrap .i64 ((Int.ofNat (List.length (α := PV) b0)) - 4)))) ((B16 [] (fun r0n_80 x0_81 => (0 + r0n_80 ≤ (List.length (α := PV) x0_81) ∧ asBytesK (rowPart x0_81 0 r0n_80) fun s_82 => asBytesK b0 fun s_83 => cond (!(ByteArray.toList s_82 == ByteArray.toList s_83))
  (k0 false)
  (k0 true)) ∧ (asBytesK b0 fun s_84 => 0 + r0n_80 ≤ (List.length (α := PV) x0_81) ∧ asBytesK (rowPart x0_81 0 r0n_80) fun s_85 => cond (!(ByteArray.toList s_85 == ByteArray.toList s_84))
  (k0 false)
  (k0 true)))) ∧ (asBytesK b0 fun s_86 => B16 [] (fun r0n_87 x0_88 => 0 + r0n_87 ≤ (List.length (α := PV) x0_88) ∧ asBytesK (rowPart x0_88 0 r0n_87) fun s_89 => cond (!(ByteArray.toList s_89 == ByteArray.toList s_86))
  (k0 false)
  (k0 true)))) (fun r0n_90 x0_91 => (0 + r0n_90 ≤ (List.length (α := PV) x0_91) ∧ B16 (rowPart x0_91 0 r0n_90) (fun r0n_92 x0_93 => (0 + r0n_92 ≤ (List.length (α := PV) x0_93) ∧ asBytesK (rowPart x0_93 0 r0n_92) fun s_94 => asBytesK b0 fun s_95 => cond (!(ByteArray.toList s_94 == ByteArray.toList s_95))
  (k0 false)
  (k1 r0n_90 true x0_91)) ∧ (asBytesK b0 fun s_96 => 0 + r0n_92 ≤ (List.length (α := PV) x0_93) ∧ asBytesK (rowPart x0_93 0 r0n_92) fun s_97 => cond (!(ByteArray.toList s_97 == ByteArray.toList s_96))
  (k0 false)
  (k1 r0n_90 true x0_91)))) ∧ (asBytesK b0 fun s_98 => 0 + r0n_90 ≤ (List.length (α := PV) x0_91) ∧ B16 (rowPart x0_91 0 r0n_90) (fun r0n_99 x0_100 => 0 + r0n_99 ≤ (List.length (α := PV) x0_100) ∧ asBytesK (rowPart x0_100 0 r0n_99) fun s_101 => cond (!(ByteArray.toList s_101 == ByteArray.toList s_98))
  (k0 false)
  (k1 r0n_90 true x0_91)))))
def P14 : FnSem := fun bs t K =>
  consK t fun r1 r2 => asListK 5 r1 fun b0 => nilK r2 <| bNilK bs <| B14 b0 (fun z0 => K [] [.nilsl, (.bool z0)]) (fun z0 z1 z2 => K [(.row false 5 z2)] [(.sl 0 5 0 z0), (.bool z1)])
def W14 : FnSem := fun bs t K => P14 bs (weakL [some 5] t) K
def T14 : List (FuncId × FnSem) := (17, W17) :: T17
def C14 : Ctx := ⟨pvT, pvG, lookΦ T14, pvRef, fun i => none, fun _ => none, fun i => List.getD [[0], [0, 7], [2, 3], [0, 4], [4, 19], [2, 3], [2, 3]] i [], 0, true, fun i => List.getD [] i []⟩
theorem B14_eq (b0 : List PV) (K : List Blk → List PV → Prop) : evF C14 Try.f14 [] [(.list 5 b0)] K = (([] : List Blk).length = 0 ∧ B14 b0 (fun z0 => K [] [.nilsl, (.bool z0)]) (fun z0 z1 z2 => K [(.row false 5 z2)] [(.sl 0 5 0 z0), (.bool z1)])) := by kernel_rfl
theorem T14_ok : AllSound Try.prog pvT pvG T14 := ⟨⟨W17_ok, fun a w => Try.call17 a w⟩, T17_ok⟩
theorem W14_ok : Sound Try.prog pvT pvG 14 W14 := Sound.weak (evF_sound (C := C14) (Base.of pvT_fits pvT_sized pvT_eq T14_ok pvMixed) Try.func14 (LoopsOk.of_loops (l := []) rfl (by kernel_rfl) trivial) (fun bs t K h0 => by
    unfold P14 at h0
    obtain ⟨r1, r2, rfl, h1⟩ := consK_inv h0
    obtain ⟨b0, rfl, h2⟩ := asListK_inv h1
    obtain ⟨rfl, h3⟩ := nilK_inv h2
    obtain ⟨rfl, h4⟩ := bNilK_inv h3
    have h := h4
    exact Eq.mpr (B14_eq b0 K) ⟨rfl, h⟩)) _
def B15 (b0 : List PV) (k0 : Bool → Prop) (k1 : List PV → Bool → Prop) : Prop :=
  cond (decide ((Int.ofNat (List.length (α := PV) b0)) < 4))
  (k0 false)
  (0 ≤ (0 : Int) ∧ (0 : Int) ≤ (IntKind.wrap .i64 ((Int.ofNat (List.length (α := PV) b0)) - 4)) ∧ (IntKind.wrap .i64 ((Int.ofNat (List.length (α := PV) b0)) - 4)) ≤ (Int.ofNat (List.length (α := PV) b0)) ∧ (B17 (cutL b0 0 (Int.toNat (IntKind.wrap .i64 ((Int.ofNat (List.length (α := PV) b0)) - 4)))) (fun r0n_102 x0_103 => (0 + r0n_102 ≤ (List.length (α := PV) x0_103) ∧ asBytesK (rowPart x0_103 0 r0n_102) fun s_104 => asBytesK b0 fun s_105 => cond (!(ByteArray.toList s_104 == ByteArray.toList s_105))
  (k0 false)
  (k1 (cutL b0 0 (Int.toNat (IntKind.wrap .i64 ((Int.ofNat (List.length (α := PV) b0)) - 4)))) true)) ∧ (asBytesK b0 fun s_106 => 0 + r0n_102 ≤ (List.length (α := PV) x0_103) ∧ asBytesK (rowPart x0_103 0 r0n_102) fun s_107 => cond (!(ByteArray.toList s_107 == ByteArray.toList s_106))
  (k0 false)
  (k1 (cutL b0 0 (Int.toNat (IntKind.wrap .i64 ((Int.ofNat (List.length (α := PV) b0)) - 4)))) true)))) ∧ (asBytesK b0 fun s_108 => B17 (cutL b0 0 (Int.toNat (IntKind.wrap .i64 ((Int.ofNat (List.length (α := PV) b0)) - 4)))) (fun r0n_109 x0_110 => 0 + r0n_109 ≤ (List.length (α := PV) x0_110) ∧ asBytesK (rowPart x0_110 0 r0n_109) fun s_111 => cond (!(ByteArray.toList s_111 == ByteArray.toList s_108))
  (k0 false)
  (k1 (cutL b0 0 (Int.toNat (IntKind.wrap .i64 ((Int.ofNat (List.length (α := PV) b0)) - 4)))) true))))
def P15 : FnSem := fun bs t K =>
  consK t fun r1 r2 => asListK 5 r1 fun b0 => nilK r2 <| bNilK bs <| B15 b0 (fun z0 => K [] [.nilsl, (.bool z0)]) (fun z0 z1 => K [] [(.list 5 z0), (.bool z1)])
def W15 : FnSem := fun bs t K => P15 bs (weakL [some 5] t) K
def T15 : List (FuncId × FnSem) := (14, W14) :: T14
def C15 : Ctx := ⟨pvT, pvG, lookΦ T15, pvRef, fun i => none, fun _ => none, fun i => List.getD [[0], [0, 7], [2, 3], [0, 4], [4, 18], [2, 3], [2, 3]] i [], 0, true, fun i => List.getD [] i []⟩
theorem B15_eq (b0 : List PV) (K : List Blk → List PV → Prop) : evF C15 Try.f15 [] [(.list 5 b0)] K = (([] : List Blk).length = 0 ∧ B15 b0 (fun z0 => K [] [.nilsl, (.bool z0)]) (fun z0 z1 => K [] [(.list 5 z0), (.bool z1)])) := by kernel_rfl
theorem T15_ok : AllSound Try.prog pvT pvG T15 := ⟨⟨W14_ok, fun a w => Try.call14 a w⟩, T14_ok⟩
theorem W15_ok : Sound Try.prog pvT pvG 15 W15 := Sound.weak (evF_sound (C := C15) (Base.of pvT_fits pvT_sized pvT_eq T15_ok pvMixed) Try.func15 (LoopsOk.of_loops (l := []) rfl (by kernel_rfl) trivial) (fun bs t K h0 => by
    unfold P15 at h0
    obtain ⟨r1, r2, rfl, h1⟩ := consK_inv h0
    obtain ⟨b0, rfl, h2⟩ := asListK_inv h1
    obtain ⟨rfl, h3⟩ := nilK_inv h2
    obtain ⟨rfl, h4⟩ := bNilK_inv h3
    have h := h4
    exact Eq.mpr (B15_eq b0 K) ⟨rfl, h⟩)) _
def B13 (k0 : Bool → Prop) : Prop :=
  0 + 2 ≤ (List.length (α := PV) [(.int .u8 97), (.int .u8 98)]) ∧ B16 (rowPart [(.int .u8 97), (.int .u8 98)] 0 2) (fun r0n_112 x0_113 => 0 + r0n_112 ≤ (List.length (α := PV) x0_113) ∧ B14 (rowPart x0_113 0 r0n_112) (fun r1_114 => 0 + 9 ≤ (List.length (α := PV) [(.int .u8 49), (.int .u8 50), (.int .u8 51), (.int .u8 52), (.int .u8 53), (.int .u8 54), (.int .u8 55), (.int .u8 56), (.int .u8 57)]) ∧ B10 (rowPart [(.int .u8 49), (.int .u8 50), (.int .u8 51), (.int .u8 52), (.int .u8 53), (.int .u8 54), (.int .u8 55), (.int .u8 56), (.int .u8 57)] 0 9) (fun r0_115 => cond (decide (r0_115 = 3808858755))
  (cond r1_114
  (k0 (ByteArray.toList .empty == ByteArray.toList (ByteArray.mk #[97, 98])))
  (k0 false))
  (k0 false))) (fun r0n_116 r1_117 x0_118 => 0 + 9 ≤ (List.length (α := PV) [(.int .u8 49), (.int .u8 50), (.int .u8 51), (.int .u8 52), (.int .u8 53), (.int .u8 54), (.int .u8 55), (.int .u8 56), (.int .u8 57)]) ∧ B10 (rowPart [(.int .u8 49), (.int .u8 50), (.int .u8 51), (.int .u8 52), (.int .u8 53), (.int .u8 54), (.int .u8 55), (.int .u8 56), (.int .u8 57)] 0 9) (fun r0_119 => cond (decide (r0_119 = 3808858755))
  (cond r1_117
  (0 + r0n_116 ≤ (List.length (α := PV) x0_118) ∧ asBytesK (rowPart x0_118 0 r0n_116) fun s_120 => k0 (ByteArray.toList s_120 == ByteArray.toList (ByteArray.mk #[97, 98])))
  (k0 false))
  (k0 false))))
def P13 : FnSem := fun bs t K =>
  nilK t <| bNilK bs <| B13  (fun z0 => K [] [(.bool z0)])
def W13 : FnSem := fun bs t K => P13 bs (weakL [] t) K
def T13 : List (FuncId × FnSem) := (15, W15) :: T15
def C13 : Ctx := ⟨pvT, pvG, lookΦ T13, pvRef, fun i => none, fun _ => none, fun i => List.getD [[], [1, 2], [0]] i [], 0, true, fun i => List.getD [] i []⟩
theorem B13_eq (K : List Blk → List PV → Prop) : evF C13 Try.f13 [] [] K = (([] : List Blk).length = 0 ∧ B13  (fun z0 => K [] [(.bool z0)])) := by kernel_rfl
theorem T13_ok : AllSound Try.prog pvT pvG T13 := ⟨⟨W15_ok, fun a w => Try.call15 a w⟩, T15_ok⟩
theorem W13_ok : Sound Try.prog pvT pvG 13 W13 := Sound.weak (evF_sound (C := C13) (Base.of pvT_fits pvT_sized pvT_eq T13_ok pvMixed) Try.func13 (LoopsOk.of_loops (l := []) rfl (by kernel_rfl) trivial) (fun bs t K h0 => by
    unfold P13 at h0
    obtain ⟨rfl, h1⟩ := nilK_inv h0
    obtain ⟨rfl, h2⟩ := bNilK_inv h1
    have h := h2
    exact Eq.mpr (B13_eq  K) ⟨rfl, h⟩)) _
def B3 (a0 : List PV) (b1 : List PV) (k0 : Bool → Prop) : Prop :=
  B9 a0 (fun r0_121 => B9 b1 (fun r0_122 => 0 = (List.length (α := PV) []) ∧ (0 + (List.length (α := PV) r0_121)) * 1 ≤ maxRoom ∧ 0 = (List.length (α := PV) []) ∧ (0 + (List.length (α := PV) r0_121)) * 1 ≤ maxRoom ∧ (0 + (List.length (α := PV) r0_121)) = (List.length (α := PV) ([] ++ r0_121)) ∧ ((0 + (List.length (α := PV) r0_121)) + (List.length (α := PV) r0_122)) * 1 ≤ maxRoom ∧ 0 + (0 + (List.length (α := PV) r0_121)) ≤ (List.length (α := PV) ([] ++ r0_121)) ∧ B10 (rowPart ([] ++ r0_121) 0 (0 + (List.length (α := PV) r0_121))) (fun r0_123 => B11 r0_121 (fun r0_124 => cond (decide (r0_123 = r0_124))
  (0 + (0 + (List.length (α := PV) r0_121)) ≤ (List.length (α := PV) ([] ++ r0_121)) ∧ B10 (rowPart ([] ++ r0_121) 0 (0 + (List.length (α := PV) r0_121))) (fun r0_125 => B12 r0_125 r0_122 (fun r0_126 => 0 + ((0 + (List.length (α := PV) r0_121)) + (List.length (α := PV) r0_122)) ≤ (List.length (α := PV) (([] ++ r0_121) ++ r0_122)) ∧ B11 (rowPart (([] ++ r0_121) ++ r0_122) 0 ((0 + (List.length (α := PV) r0_121)) + (List.length (α := PV) r0_122))) (fun r0_127 => cond (decide (r0_126 = r0_127))
  (0 + (0 + (List.length (α := PV) r0_121)) ≤ (List.length (α := PV) ([] ++ r0_121)) ∧ asBytesK (rowPart ([] ++ r0_121) 0 (0 + (List.length (α := PV) r0_121))) fun s_128 => asBytesK r0_121 fun s_129 => cond (ByteArray.toList s_128 == ByteArray.toList s_129)
  (B13 (fun r0_130 => k0 r0_130))
  (k0 false))
  (k0 false)))))
  (k0 false)))))
def P3 : FnSem := fun bs t K =>
  consK t fun r1 r2 => asListK 5 r1 fun a0 => consK r2 fun r3 r4 => asListK 5 r3 fun b1 => nilK r4 <| bNilK bs <| B3 a0 b1 (fun z0 => K [] [(.bool z0)])
def W3 : FnSem := fun bs t K => P3 bs (weakL [some 5, some 5] t) K
def T3 : List (FuncId × FnSem) := (13, W13) :: T13
def C3 : Ctx := ⟨pvT, pvG, lookΦ T3, pvRef, fun i => none, fun _ => none, fun i => List.getD [[0, 1], [0, 1], [0, 1, 5], [0, 1, 5, 6], [4]] i [], 0, true, fun i => List.getD [] i []⟩
theorem B3_eq (a0 : List PV) (b1 : List PV) (K : List Blk → List PV → Prop) : evF C3 Try.f3 [] [(.list 5 a0), (.list 5 b1)] K = (([] : List Blk).length = 0 ∧ B3 a0 b1 (fun z0 => K [] [(.bool z0)])) := by kernel_rfl
theorem T3_ok : AllSound Try.prog pvT pvG T3 := ⟨⟨W13_ok, fun a w => Try.call13 a w⟩, T13_ok⟩
theorem W3_ok : Sound Try.prog pvT pvG 3 W3 := Sound.weak (evF_sound (C := C3) (Base.of pvT_fits pvT_sized pvT_eq T3_ok pvMixed) Try.func3 (LoopsOk.of_loops (l := []) rfl (by kernel_rfl) trivial) (fun bs t K h0 => by
    unfold P3 at h0
    obtain ⟨r1, r2, rfl, h1⟩ := consK_inv h0
    obtain ⟨a0, rfl, h2⟩ := asListK_inv h1
    obtain ⟨r3, r4, rfl, h3⟩ := consK_inv h2
    obtain ⟨b1, rfl, h4⟩ := asListK_inv h3
    obtain ⟨rfl, h5⟩ := nilK_inv h4
    obtain ⟨rfl, h6⟩ := bNilK_inv h5
    have h := h6
    exact Eq.mpr (B3_eq a0 b1 K) ⟨rfl, h⟩)) _
def B4 (b0 : List PV) (k0 : Bool → Prop) : Prop :=
  B9 b0 (fun r0_131 => B14 r0_131 (fun r1_132 => B15 r0_131 (fun r1_133 => B16 r0_131 (fun r0n_134 x0_135 => (0 + r0n_134 ≤ (List.length (α := PV) x0_135) ∧ asBytesK (rowPart x0_135 0 r0n_134) fun s_136 => B17 r0_131 (fun r0n_137 x0_138 => 0 + r0n_137 ≤ (List.length (α := PV) x0_138) ∧ asBytesK (rowPart x0_138 0 r0n_137) fun s_139 => cond (ByteArray.toList s_136 == ByteArray.toList s_139)
  ((cond (ByteArray.toList .empty == ByteArray.toList .empty)
  (cond (r1_132 == r1_133)
  (B13 (fun r0_140 => k0 r0_140))
  (k0 false))
  (k0 false)) ∧ (cond (ByteArray.toList .empty == ByteArray.toList .empty)
  (cond (r1_132 == r1_133)
  (B13 (fun r0_141 => k0 r0_141))
  (k0 false))
  (k0 false)))
  (k0 false))) ∧ (B17 r0_131 (fun r0n_142 x0_143 => (0 + r0n_134 ≤ (List.length (α := PV) x0_135) ∧ asBytesK (rowPart x0_135 0 r0n_134) fun s_144 => 0 + r0n_142 ≤ (List.length (α := PV) x0_143) ∧ asBytesK (rowPart x0_143 0 r0n_142) fun s_145 => cond (ByteArray.toList s_144 == ByteArray.toList s_145)
  ((cond (ByteArray.toList .empty == ByteArray.toList .empty)
  (cond (r1_132 == r1_133)
  (B13 (fun r0_146 => k0 r0_146))
  (k0 false))
  (k0 false)) ∧ (cond (ByteArray.toList .empty == ByteArray.toList .empty)
  (cond (r1_132 == r1_133)
  (B13 (fun r0_147 => k0 r0_147))
  (k0 false))
  (k0 false)))
  (k0 false)) ∧ (0 + r0n_142 ≤ (List.length (α := PV) x0_143) ∧ asBytesK (rowPart x0_143 0 r0n_142) fun s_148 => 0 + r0n_134 ≤ (List.length (α := PV) x0_135) ∧ asBytesK (rowPart x0_135 0 r0n_134) fun s_149 => cond (ByteArray.toList s_149 == ByteArray.toList s_148)
  ((cond (ByteArray.toList .empty == ByteArray.toList .empty)
  (cond (r1_132 == r1_133)
  (B13 (fun r0_150 => k0 r0_150))
  (k0 false))
  (k0 false)) ∧ (cond (ByteArray.toList .empty == ByteArray.toList .empty)
  (cond (r1_132 == r1_133)
  (B13 (fun r0_151 => k0 r0_151))
  (k0 false))
  (k0 false)))
  (k0 false)))))) (fun r0_152 r1_153 => B16 r0_131 (fun r0n_154 x0_155 => (0 + r0n_154 ≤ (List.length (α := PV) x0_155) ∧ asBytesK (rowPart x0_155 0 r0n_154) fun s_156 => B17 r0_131 (fun r0n_157 x0_158 => 0 + r0n_157 ≤ (List.length (α := PV) x0_158) ∧ asBytesK (rowPart x0_158 0 r0n_157) fun s_159 => cond (ByteArray.toList s_156 == ByteArray.toList s_159)
  ((asBytesK r0_152 fun s_160 => cond (ByteArray.toList .empty == ByteArray.toList s_160)
  (cond (r1_132 == r1_153)
  (B13 (fun r0_161 => k0 r0_161))
  (k0 false))
  (k0 false)) ∧ (asBytesK r0_152 fun s_162 => cond (ByteArray.toList .empty == ByteArray.toList s_162)
  (cond (r1_132 == r1_153)
  (B13 (fun r0_163 => k0 r0_163))
  (k0 false))
  (k0 false)))
  (k0 false))) ∧ (B17 r0_131 (fun r0n_164 x0_165 => (0 + r0n_154 ≤ (List.length (α := PV) x0_155) ∧ asBytesK (rowPart x0_155 0 r0n_154) fun s_166 => 0 + r0n_164 ≤ (List.length (α := PV) x0_165) ∧ asBytesK (rowPart x0_165 0 r0n_164) fun s_167 => cond (ByteArray.toList s_166 == ByteArray.toList s_167)
  ((asBytesK r0_152 fun s_168 => cond (ByteArray.toList .empty == ByteArray.toList s_168)
  (cond (r1_132 == r1_153)
  (B13 (fun r0_169 => k0 r0_169))
  (k0 false))
  (k0 false)) ∧ (asBytesK r0_152 fun s_170 => cond (ByteArray.toList .empty == ByteArray.toList s_170)
  (cond (r1_132 == r1_153)
  (B13 (fun r0_171 => k0 r0_171))
  (k0 false))
  (k0 false)))
  (k0 false)) ∧ (0 + r0n_164 ≤ (List.length (α := PV) x0_165) ∧ asBytesK (rowPart x0_165 0 r0n_164) fun s_172 => 0 + r0n_154 ≤ (List.length (α := PV) x0_155) ∧ asBytesK (rowPart x0_155 0 r0n_154) fun s_173 => cond (ByteArray.toList s_173 == ByteArray.toList s_172)
  ((asBytesK r0_152 fun s_174 => cond (ByteArray.toList .empty == ByteArray.toList s_174)
  (cond (r1_132 == r1_153)
  (B13 (fun r0_175 => k0 r0_175))
  (k0 false))
  (k0 false)) ∧ (asBytesK r0_152 fun s_176 => cond (ByteArray.toList .empty == ByteArray.toList s_176)
  (cond (r1_132 == r1_153)
  (B13 (fun r0_177 => k0 r0_177))
  (k0 false))
  (k0 false)))
  (k0 false))))))) (fun r0n_178 r1_179 x0_180 => B15 r0_131 (fun r1_181 => B16 r0_131 (fun r0n_182 x0_183 => (0 + r0n_182 ≤ (List.length (α := PV) x0_183) ∧ asBytesK (rowPart x0_183 0 r0n_182) fun s_184 => B17 r0_131 (fun r0n_185 x0_186 => 0 + r0n_185 ≤ (List.length (α := PV) x0_186) ∧ asBytesK (rowPart x0_186 0 r0n_185) fun s_187 => cond (ByteArray.toList s_184 == ByteArray.toList s_187)
  ((0 + r0n_178 ≤ (List.length (α := PV) x0_180) ∧ asBytesK (rowPart x0_180 0 r0n_178) fun s_188 => cond (ByteArray.toList s_188 == ByteArray.toList .empty)
  (cond (r1_179 == r1_181)
  (B13 (fun r0_189 => k0 r0_189))
  (k0 false))
  (k0 false)) ∧ (0 + r0n_178 ≤ (List.length (α := PV) x0_180) ∧ asBytesK (rowPart x0_180 0 r0n_178) fun s_190 => cond (ByteArray.toList s_190 == ByteArray.toList .empty)
  (cond (r1_179 == r1_181)
  (B13 (fun r0_191 => k0 r0_191))
  (k0 false))
  (k0 false)))
  (k0 false))) ∧ (B17 r0_131 (fun r0n_192 x0_193 => (0 + r0n_182 ≤ (List.length (α := PV) x0_183) ∧ asBytesK (rowPart x0_183 0 r0n_182) fun s_194 => 0 + r0n_192 ≤ (List.length (α := PV) x0_193) ∧ asBytesK (rowPart x0_193 0 r0n_192) fun s_195 => cond (ByteArray.toList s_194 == ByteArray.toList s_195)
  ((0 + r0n_178 ≤ (List.length (α := PV) x0_180) ∧ asBytesK (rowPart x0_180 0 r0n_178) fun s_196 => cond (ByteArray.toList s_196 == ByteArray.toList .empty)
  (cond (r1_179 == r1_181)
  (B13 (fun r0_197 => k0 r0_197))
  (k0 false))
  (k0 false)) ∧ (0 + r0n_178 ≤ (List.length (α := PV) x0_180) ∧ asBytesK (rowPart x0_180 0 r0n_178) fun s_198 => cond (ByteArray.toList s_198 == ByteArray.toList .empty)
  (cond (r1_179 == r1_181)
  (B13 (fun r0_199 => k0 r0_199))
  (k0 false))
  (k0 false)))
  (k0 false)) ∧ (0 + r0n_192 ≤ (List.length (α := PV) x0_193) ∧ asBytesK (rowPart x0_193 0 r0n_192) fun s_200 => 0 + r0n_182 ≤ (List.length (α := PV) x0_183) ∧ asBytesK (rowPart x0_183 0 r0n_182) fun s_201 => cond (ByteArray.toList s_201 == ByteArray.toList s_200)
  ((0 + r0n_178 ≤ (List.length (α := PV) x0_180) ∧ asBytesK (rowPart x0_180 0 r0n_178) fun s_202 => cond (ByteArray.toList s_202 == ByteArray.toList .empty)
  (cond (r1_179 == r1_181)
  (B13 (fun r0_203 => k0 r0_203))
  (k0 false))
  (k0 false)) ∧ (0 + r0n_178 ≤ (List.length (α := PV) x0_180) ∧ asBytesK (rowPart x0_180 0 r0n_178) fun s_204 => cond (ByteArray.toList s_204 == ByteArray.toList .empty)
  (cond (r1_179 == r1_181)
  (B13 (fun r0_205 => k0 r0_205))
  (k0 false))
  (k0 false)))
  (k0 false)))))) (fun r0_206 r1_207 => B16 r0_131 (fun r0n_208 x0_209 => (0 + r0n_208 ≤ (List.length (α := PV) x0_209) ∧ asBytesK (rowPart x0_209 0 r0n_208) fun s_210 => B17 r0_131 (fun r0n_211 x0_212 => 0 + r0n_211 ≤ (List.length (α := PV) x0_212) ∧ asBytesK (rowPart x0_212 0 r0n_211) fun s_213 => cond (ByteArray.toList s_210 == ByteArray.toList s_213)
  ((0 + r0n_178 ≤ (List.length (α := PV) x0_180) ∧ asBytesK (rowPart x0_180 0 r0n_178) fun s_214 => asBytesK r0_206 fun s_215 => cond (ByteArray.toList s_214 == ByteArray.toList s_215)
  (cond (r1_179 == r1_207)
  (B13 (fun r0_216 => k0 r0_216))
  (k0 false))
  (k0 false)) ∧ (asBytesK r0_206 fun s_217 => 0 + r0n_178 ≤ (List.length (α := PV) x0_180) ∧ asBytesK (rowPart x0_180 0 r0n_178) fun s_218 => cond (ByteArray.toList s_218 == ByteArray.toList s_217)
  (cond (r1_179 == r1_207)
  (B13 (fun r0_219 => k0 r0_219))
  (k0 false))
  (k0 false)))
  (k0 false))) ∧ (B17 r0_131 (fun r0n_220 x0_221 => (0 + r0n_208 ≤ (List.length (α := PV) x0_209) ∧ asBytesK (rowPart x0_209 0 r0n_208) fun s_222 => 0 + r0n_220 ≤ (List.length (α := PV) x0_221) ∧ asBytesK (rowPart x0_221 0 r0n_220) fun s_223 => cond (ByteArray.toList s_222 == ByteArray.toList s_223)
  ((0 + r0n_178 ≤ (List.length (α := PV) x0_180) ∧ asBytesK (rowPart x0_180 0 r0n_178) fun s_224 => asBytesK r0_206 fun s_225 => cond (ByteArray.toList s_224 == ByteArray.toList s_225)
  (cond (r1_179 == r1_207)
  (B13 (fun r0_226 => k0 r0_226))
  (k0 false))
  (k0 false)) ∧ (asBytesK r0_206 fun s_227 => 0 + r0n_178 ≤ (List.length (α := PV) x0_180) ∧ asBytesK (rowPart x0_180 0 r0n_178) fun s_228 => cond (ByteArray.toList s_228 == ByteArray.toList s_227)
  (cond (r1_179 == r1_207)
  (B13 (fun r0_229 => k0 r0_229))
  (k0 false))
  (k0 false)))
  (k0 false)) ∧ (0 + r0n_220 ≤ (List.length (α := PV) x0_221) ∧ asBytesK (rowPart x0_221 0 r0n_220) fun s_230 => 0 + r0n_208 ≤ (List.length (α := PV) x0_209) ∧ asBytesK (rowPart x0_209 0 r0n_208) fun s_231 => cond (ByteArray.toList s_231 == ByteArray.toList s_230)
  ((0 + r0n_178 ≤ (List.length (α := PV) x0_180) ∧ asBytesK (rowPart x0_180 0 r0n_178) fun s_232 => asBytesK r0_206 fun s_233 => cond (ByteArray.toList s_232 == ByteArray.toList s_233)
  (cond (r1_179 == r1_207)
  (B13 (fun r0_234 => k0 r0_234))
  (k0 false))
  (k0 false)) ∧ (asBytesK r0_206 fun s_235 => 0 + r0n_178 ≤ (List.length (α := PV) x0_180) ∧ asBytesK (rowPart x0_180 0 r0n_178) fun s_236 => cond (ByteArray.toList s_236 == ByteArray.toList s_235)
  (cond (r1_179 == r1_207)
  (B13 (fun r0_237 => k0 r0_237))
  (k0 false))
  (k0 false)))
  (k0 false))))))))
def P4 : FnSem := fun bs t K =>
  consK t fun r1 r2 => asListK 5 r1 fun b0 => nilK r2 <| bNilK bs <| B4 b0 (fun z0 => K [] [(.bool z0)])
def W4 : FnSem := fun bs t K => P4 bs (weakL [some 5] t) K
def T4 : List (FuncId × FnSem) := (3, W3) :: T3
def C4 : Ctx := ⟨pvT, pvG, lookΦ T4, pvRef, fun i => none, fun _ => none, fun i => List.getD [[0], [0], [0, 3, 4], [0, 3, 4, 5, 6], [2]] i [], 0, true, fun i => List.getD [] i []⟩
theorem B4_eq (b0 : List PV) (K : List Blk → List PV → Prop) : evF C4 Try.f4 [] [(.list 5 b0)] K = (([] : List Blk).length = 0 ∧ B4 b0 (fun z0 => K [] [(.bool z0)])) := by kernel_rfl
theorem T4_ok : AllSound Try.prog pvT pvG T4 := ⟨⟨W3_ok, fun a w => Try.call3 a w⟩, T3_ok⟩
theorem W4_ok : Sound Try.prog pvT pvG 4 W4 := Sound.weak (evF_sound (C := C4) (Base.of pvT_fits pvT_sized pvT_eq T4_ok pvMixed) Try.func4 (LoopsOk.of_loops (l := []) rfl (by kernel_rfl) trivial) (fun bs t K h0 => by
    unfold P4 at h0
    obtain ⟨r1, r2, rfl, h1⟩ := consK_inv h0
    obtain ⟨b0, rfl, h2⟩ := asListK_inv h1
    obtain ⟨rfl, h3⟩ := nilK_inv h2
    obtain ⟨rfl, h4⟩ := bNilK_inv h3
    have h := h4
    exact Eq.mpr (B4_eq b0 K) ⟨rfl, h⟩)) _
def S5_10 (t0 : List PV) (t2 : Int) (t7n : Nat) (t8 : Int) (t9 : Bool) (t10 : Int) (x0 : List PV) (kn : Bool → Int → List PV → Prop) (k0 : Bool → Int → List PV → Prop) : Prop :=
  cond (decide (t10 < 32))
  (cond (decide ((IntKind.wrap .i64 (t8 + t10)) < (IntKind.wrap .i64 (8 * (Int.ofNat (List.length (α := PV) t0))))))
  (0 ≤ (IntKind.wrap .u64 t10) ∧ cond (decide ((bitsW .and .u32 (Int.fdiv t2 (2 ^ (min (Int.toNat (IntKind.wrap .u64 t10)) 32))) 1) = 1))
  (8 ≠ (0 : Int) ∧ (0 : Int) ≤ (IntKind.wrap .i64 (Int.tdiv (IntKind.wrap .i64 (t8 + t10)) 8)) ∧ (IntKind.wrap .i64 (Int.tdiv (IntKind.wrap .i64 (t8 + t10)) 8)) < (Int.ofNat t7n) ∧ elemAt x0 (0 + (Int.toNat (IntKind.wrap .i64 (Int.tdiv (IntKind.wrap .i64 (t8 + t10)) 8)))) fun e_242 => asIntK .u8 e_242 fun n_243 => 8 ≠ (0 : Int) ∧ 0 ≤ (IntKind.wrap .u64 (Int.tmod (IntKind.wrap .i64 (t8 + t10)) 8)) ∧ (0 : Int) ≤ (IntKind.wrap .i64 (Int.tdiv (IntKind.wrap .i64 (t8 + t10)) 8)) ∧ (IntKind.wrap .i64 (Int.tdiv (IntKind.wrap .i64 (t8 + t10)) 8)) < (Int.ofNat t7n) ∧ elemAt x0 (0 + (Int.toNat (IntKind.wrap .i64 (Int.tdiv (IntKind.wrap .i64 (t8 + t10)) 8)))) fun _ => kn true (IntKind.wrap .i64 (t10 + 1)) (List.set x0 (0 + (Int.toNat (IntKind.wrap .i64 (Int.tdiv (IntKind.wrap .i64 (t8 + t10)) 8)))) (.int .u8 (bitsW .xor .u8 n_243 (IntKind.wrap .u8 (1 * 2 ^ (min (Int.toNat (IntKind.wrap .u64 (Int.tmod (IntKind.wrap .i64 (t8 + t10)) 8))) 8)))))))
  (kn t9 (IntKind.wrap .i64 (t10 + 1)) x0))
  (k0 t9 t10 x0))
  (k0 t9 t10 x0)
def R5_10 (t0 : List PV) (t2 : Int) (t7n : Nat) (t8 : Int) (k0 : Bool → Int → List PV → Prop) : Nat → Bool → Int → List PV → Prop
  | 0, _, _, _ => False
  | n + 1, t9, t10, x0 => S5_10 t0 t2 t7n t8 t9 t10 x0 (R5_10 t0 t2 t7n t8 k0 n) k0
def L5_10 (t0 : List PV) (t2 : Int) (t7n : Nat) (t8 : Int) (t9 : Bool) (t10 : Int) (x0 : List PV) (k0 : Bool → Int → List PV → Prop) : Prop := ∃ n, R5_10 t0 t2 t7n t8 k0 n t9 t10 x0
def Q5_10 : LoopSem := fun t bs K =>
  consK t fun r1 r2 => asListK 5 r1 fun t0 => skipU 1 r2 fun r3 => consK r3 fun r4 r5 => asIntK .u32 r4 fun t2 => skipU 4 r5 fun r6 => consK r6 fun r7 r8 => slK0 0 5 r7 fun t7n => consK r8 fun r9 r10 => asIntK .i64 r9 fun t8 => consK r10 fun r11 r12 => asBoolK r11 fun t9 => consK r12 fun r13 r14 => asIntK .i64 r13 fun t10 => skipU 81 r14 fun r15 => nilK r15 <| bConsK bs fun r16 r17 => bRowK true 5 r16 fun x0 => bNilK r17 <| L5_10 t0 t2 t7n t8 t9 t10 x0 (fun z4 z5 z6 => K (.exit 0) ((.list 5 t0) :: skU 1 ((.int .u32 t2) :: skU 4 ((.sl 0 5 0 t7n) :: (.int .i64 t8) :: (.bool z4) :: (.int .i64 z5) :: skU 81 []))) [(.row true 5 z6)])
def B5 (t0 : List PV) (append1 : Int) (t2 : Int) (k0 : Bool → Prop) : Prop :=
  B9 t0 (fun r0_238 => cond (decide ((Int.ofNat (List.length (α := PV) r0_238)) = 0))
  (B13 (fun r0_239 => k0 r0_239))
  (B16 r0_238 (fun r0n_240 x0_241 => cond (!decide ((Int.ofNat r0n_240) = (IntKind.wrap .i64 ((Int.ofNat (List.length (α := PV) r0_238)) + 4))))
  (k0 false)
  ((IntKind.wrap .i64 (8 * (Int.ofNat (List.length (α := PV) r0_238)))) ≠ (0 : Int) ∧ L5_10 r0_238 t2 r0n_240 (Int.tmod (IntKind.wrap .i64 append1) (IntKind.wrap .i64 (8 * (Int.ofNat (List.length (α := PV) r0_238))))) false 0 x0_241 (fun t9_245 t10_246 x0_247 => 0 ≤ (0 : Int) ∧ (0 : Int) ≤ (Int.ofNat (List.length (α := PV) r0_238)) ∧ (Int.ofNat (List.length (α := PV) r0_238)) ≤ (Int.ofNat r0n_240) ∧ 0 + r0n_240 ≤ (List.length (α := PV) x0_247) ∧ B14 (rowPart x0_247 0 r0n_240) (fun r1_248 => cond (!(r1_248 == t9_245))
  (0 + ((List.length (α := PV) r0_238) - 0) ≤ (List.length (α := PV) x0_247) ∧ B10 (rowPart x0_247 0 ((List.length (α := PV) r0_238) - 0)) (fun r0_249 => B10 r0_238 (fun r0_250 => cond ((!decide (r0_249 = r0_250)) == t9_245)
  (B13 (fun r0_251 => k0 r0_251))
  (k0 false))))
  (k0 false)) (fun r0n_252 r1_253 x0_254 => cond (!(r1_253 == t9_245))
  (0 + ((List.length (α := PV) r0_238) - 0) ≤ (List.length (α := PV) x0_247) ∧ B10 (rowPart x0_247 0 ((List.length (α := PV) r0_238) - 0)) (fun r0_255 => B10 r0_238 (fun r0_256 => cond ((!decide (r0_255 = r0_256)) == t9_245)
  (B13 (fun r0_257 => k0 r0_257))
  (k0 false))))
  (k0 false)))))))
def P5 : FnSem := fun bs t K =>
  consK t fun r1 r2 => asListK 5 r1 fun t0 => consK r2 fun r3 r4 => asIntK .u16 r3 fun append1 => consK r4 fun r5 r6 => asIntK .u32 r5 fun t2 => nilK r6 <| bNilK bs <| B5 t0 append1 t2 (fun z0 => K [] [(.bool z0)])
def W5 : FnSem := fun bs t K => P5 bs (weakL [some 5, none, none] t) K
def T5 : List (FuncId × FnSem) := (4, W4) :: T4
def C5 : Ctx := ⟨pvT, pvG, lookΦ T5, pvRef, fun i => cond (Nat.beq i 10) (some Q5_10) (none), fun _ => none, fun i => List.getD [[0, 1, 2], [0, 1, 2], [0, 1, 2, 19], [6], [0, 1, 2, 7], [0, 1, 2, 7, 28], [6], [0, 2, 7, 8], [0, 2, 7, 8, 9], [0, 2, 7, 8, 9, 10], [0, 2, 7, 8, 9, 10, 45], [0, 2, 7, 8, 9, 10], [0, 2, 7, 8, 9, 10, 53], [0, 2, 7, 8, 10, 11], [0, 2, 7, 8, 10], [0, 2, 7, 8, 9, 10], [0, 7, 9, 12], [0, 9, 12, 14], [6]] i [], 0, true, fun i => List.getD [] i []⟩
theorem S5_10_eq (t0 : List PV) (t2 : Int) (t7n : Nat) (t8 : Int) (t9 : Bool) (t10 : Int) (x0 : List PV) (G : Ex → St → Prop) : evC C5 (codeOf Try.f5 [1, 1, 1, 1, 1, 1, 1, 0, 1, 0, 0]) (mkSt ((.list 5 t0) :: skU 1 ((.int .u32 t2) :: skU 4 ((.sl 0 5 0 t7n) :: (.int .i64 t8) :: (.bool t9) :: (.int .i64 t10) :: skU 81 []))) [(.row true 5 x0)]) G = S5_10 t0 t2 t7n t8 t9 t10 x0 (fun t9 t10 x0 => G .normal (mkSt ((.list 5 t0) :: skU 1 ((.int .u32 t2) :: skU 4 ((.sl 0 5 0 t7n) :: (.int .i64 t8) :: (.bool t9) :: (.int .i64 t10) :: skU 81 []))) [(.row true 5 x0)])) (fun z4 z5 z6 => G (.exit 0) (mkSt ((.list 5 t0) :: skU 1 ((.int .u32 t2) :: skU 4 ((.sl 0 5 0 t7n) :: (.int .i64 t8) :: (.bool z4) :: (.int .i64 z5) :: skU 81 []))) [(.row true 5 z6)])) := by kernel_rfl
theorem R5_10_eq (t0 : List PV) (t2 : Int) (t7n : Nat) (t8 : Int) (G : Ex → St → Prop) : ∀ (n : Nat) (t9 : Bool) (t10 : Int) (x0 : List PV), evLoop C5 (codeOf Try.f5 [1, 1, 1, 1, 1, 1, 1, 0, 1, 0, 0]) n (mkSt ((.list 5 t0) :: skU 1 ((.int .u32 t2) :: skU 4 ((.sl 0 5 0 t7n) :: (.int .i64 t8) :: (.bool t9) :: (.int .i64 t10) :: skU 81 []))) [(.row true 5 x0)]) G = R5_10 t0 t2 t7n t8 (fun z4 z5 z6 => G (.exit 0) (mkSt ((.list 5 t0) :: skU 1 ((.int .u32 t2) :: skU 4 ((.sl 0 5 0 t7n) :: (.int .i64 t8) :: (.bool z4) :: (.int .i64 z5) :: skU 81 []))) [(.row true 5 z6)])) n t9 t10 x0
  | 0, _, _, _ => rfl
  | n + 1, t9, t10, x0 => (S5_10_eq t0 t2 t7n t8 t9 t10 x0 (fun e s => match e with | .normal => evLoop C5 (codeOf Try.f5 [1, 1, 1, 1, 1, 1, 1, 0, 1, 0, 0]) n s G | .exit id => G (.exit id) s | .ret => G .ret s)).trans (congrArg (fun q => S5_10 t0 t2 t7n t8 t9 t10 x0 q (fun z4 z5 z6 => G (.exit 0) (mkSt ((.list 5 t0) :: skU 1 ((.int .u32 t2) :: skU 4 ((.sl 0 5 0 t7n) :: (.int .i64 t8) :: (.bool z4) :: (.int .i64 z5) :: skU 81 []))) [(.row true 5 z6)]))) (funext fun t9 => funext fun t10 => funext fun x0 => R5_10_eq t0 t2 t7n t8 G n t9 t10 x0))
theorem Q5_10_ok : LoopOk C5 (codeOf Try.f5 [1, 1, 1, 1, 1, 1, 1, 0, 1, 0, 0]) := LoopOk.of (l := Q5_10) (by kernel_rfl) (fun t bs K h0 => by
    unfold Q5_10 at h0
    obtain ⟨r1, r2, rfl, h1⟩ := consK_inv h0
    obtain ⟨t0, rfl, h2⟩ := asListK_inv h1
    obtain ⟨r3, rfl, h3⟩ := skipU_inv h2
    obtain ⟨r4, r5, rfl, h4⟩ := consK_inv h3
    obtain ⟨t2, rfl, h5⟩ := asIntK_inv h4
    obtain ⟨r6, rfl, h6⟩ := skipU_inv h5
    obtain ⟨r7, r8, rfl, h7⟩ := consK_inv h6
    obtain ⟨t7n, rfl, h8⟩ := slK0_inv h7
    obtain ⟨r9, r10, rfl, h9⟩ := consK_inv h8
    obtain ⟨t8, rfl, h10⟩ := asIntK_inv h9
    obtain ⟨r11, r12, rfl, h11⟩ := consK_inv h10
    obtain ⟨t9, rfl, h12⟩ := asBoolK_inv h11
    obtain ⟨r13, r14, rfl, h13⟩ := consK_inv h12
    obtain ⟨t10, rfl, h14⟩ := asIntK_inv h13
    obtain ⟨r15, rfl, h15⟩ := skipU_inv h14
    obtain ⟨rfl, h16⟩ := nilK_inv h15
    obtain ⟨r16, r17, rfl, h17⟩ := bConsK_inv h16
    obtain ⟨x0, rfl, h18⟩ := bRowK_inv h17
    obtain ⟨rfl, h19⟩ := bNilK_inv h18
    have h := h19
    obtain ⟨n, hn⟩ := h
    exact ⟨n, Eq.mpr (R5_10_eq t0 t2 t7n t8 (onSt K) n t9 t10 x0) hn⟩)
theorem B5_eq (t0 : List PV) (append1 : Int) (t2 : Int) (K : List Blk → List PV → Prop) : evF C5 Try.f5 [] [(.list 5 t0), (.int .u16 append1), (.int .u32 t2)] K = (([] : List Blk).length = 0 ∧ B5 t0 append1 t2 (fun z0 => K [] [(.bool z0)])) := by kernel_rfl
theorem T5_ok : AllSound Try.prog pvT pvG T5 := ⟨⟨W4_ok, fun a w => Try.call4 a w⟩, T4_ok⟩
theorem W5_ok : Sound Try.prog pvT pvG 5 W5 := Sound.weak (evF_sound (C := C5) (Base.of pvT_fits pvT_sized pvT_eq T5_ok pvMixed) Try.func5 (LoopsOk.of_loops (l := [codeOf Try.f5 [1, 1, 1, 1, 1, 1, 1, 0, 1, 0, 0]]) rfl (by kernel_rfl) ⟨Q5_10_ok, trivial⟩) (fun bs t K h0 => by
    unfold P5 at h0
    obtain ⟨r1, r2, rfl, h1⟩ := consK_inv h0
    obtain ⟨t0, rfl, h2⟩ := asListK_inv h1
    obtain ⟨r3, r4, rfl, h3⟩ := consK_inv h2
    obtain ⟨append1, rfl, h4⟩ := asIntK_inv h3
    obtain ⟨r5, r6, rfl, h5⟩ := consK_inv h4
    obtain ⟨t2, rfl, h6⟩ := asIntK_inv h5
    obtain ⟨rfl, h7⟩ := nilK_inv h6
    obtain ⟨rfl, h8⟩ := bNilK_inv h7
    have h := h8
    exact Eq.mpr (B5_eq t0 append1 t2 K) ⟨rfl, h⟩)) _
def B6 (b0 : List PV) (at1 : List PV) (k0 : Bool → Prop) : Prop :=
  B9 b0 (fun r0_258 => (0 : Int) ≤ 0 ∧ 0 < (2 : Int) ∧ elemAt at1 0 fun e_259 => asIntK .u16 e_259 fun n_260 => (IntKind.wrap .i64 ((Int.ofNat (List.length (α := PV) r0_258)) + 1)) ≠ (0 : Int) ∧ (0 : Int) ≤ 1 ∧ 1 < (2 : Int) ∧ elemAt at1 1 fun e_261 => asIntK .u16 e_261 fun n_262 => (IntKind.wrap .i64 ((IntKind.wrap .i64 ((Int.ofNat (List.length (α := PV) r0_258)) - (Int.tmod (IntKind.wrap .i64 n_260) (IntKind.wrap .i64 ((Int.ofNat (List.length (α := PV) r0_258)) + 1))))) + 1)) ≠ (0 : Int) ∧ 0 ≤ (0 : Int) ∧ (0 : Int) ≤ (Int.tmod (IntKind.wrap .i64 n_260) (IntKind.wrap .i64 ((Int.ofNat (List.length (α := PV) r0_258)) + 1))) ∧ (Int.tmod (IntKind.wrap .i64 n_260) (IntKind.wrap .i64 ((Int.ofNat (List.length (α := PV) r0_258)) + 1))) ≤ (Int.ofNat (List.length (α := PV) r0_258)) ∧ B10 (cutL r0_258 0 (Int.toNat (Int.tmod (IntKind.wrap .i64 n_260) (IntKind.wrap .i64 ((Int.ofNat (List.length (α := PV) r0_258)) + 1))))) (fun r0_263 => 0 ≤ (Int.tmod (IntKind.wrap .i64 n_260) (IntKind.wrap .i64 ((Int.ofNat (List.length (α := PV) r0_258)) + 1))) ∧ (Int.tmod (IntKind.wrap .i64 n_260) (IntKind.wrap .i64 ((Int.ofNat (List.length (α := PV) r0_258)) + 1))) ≤ (IntKind.wrap .i64 ((Int.tmod (IntKind.wrap .i64 n_260) (IntKind.wrap .i64 ((Int.ofNat (List.length (α := PV) r0_258)) + 1))) + (Int.tmod (IntKind.wrap .i64 n_262) (IntKind.wrap .i64 ((IntKind.wrap .i64 ((Int.ofNat (List.length (α := PV) r0_258)) - (Int.tmod (IntKind.wrap .i64 n_260) (IntKind.wrap .i64 ((Int.ofNat (List.length (α := PV) r0_258)) + 1))))) + 1))))) ∧ (IntKind.wrap .i64 ((Int.tmod (IntKind.wrap .i64 n_260) (IntKind.wrap .i64 ((Int.ofNat (List.length (α := PV) r0_258)) + 1))) + (Int.tmod (IntKind.wrap .i64 n_262) (IntKind.wrap .i64 ((IntKind.wrap .i64 ((Int.ofNat (List.length (α := PV) r0_258)) - (Int.tmod (IntKind.wrap .i64 n_260) (IntKind.wrap .i64 ((Int.ofNat (List.length (α := PV) r0_258)) + 1))))) + 1))))) ≤ (Int.ofNat (List.length (α := PV) r0_258)) ∧ B12 r0_263 (cutL r0_258 (Int.toNat (Int.tmod (IntKind.wrap .i64 n_260) (IntKind.wrap .i64 ((Int.ofNat (List.length (α := PV) r0_258)) + 1)))) (Int.toNat (IntKind.wrap .i64 ((Int.tmod (IntKind.wrap .i64 n_260) (IntKind.wrap .i64 ((Int.ofNat (List.length (α := PV) r0_258)) + 1))) + (Int.tmod (IntKind.wrap .i64 n_262) (IntKind.wrap .i64 ((IntKind.wrap .i64 ((Int.ofNat (List.length (α := PV) r0_258)) - (Int.tmod (IntKind.wrap .i64 n_260) (IntKind.wrap .i64 ((Int.ofNat (List.length (α := PV) r0_258)) + 1))))) + 1))))))) (fun r0_264 => B12 r0_264 [] (fun r0_265 => 0 ≤ (IntKind.wrap .i64 ((Int.tmod (IntKind.wrap .i64 n_260) (IntKind.wrap .i64 ((Int.ofNat (List.length (α := PV) r0_258)) + 1))) + (Int.tmod (IntKind.wrap .i64 n_262) (IntKind.wrap .i64 ((IntKind.wrap .i64 ((Int.ofNat (List.length (α := PV) r0_258)) - (Int.tmod (IntKind.wrap .i64 n_260) (IntKind.wrap .i64 ((Int.ofNat (List.length (α := PV) r0_258)) + 1))))) + 1))))) ∧ (IntKind.wrap .i64 ((Int.tmod (IntKind.wrap .i64 n_260) (IntKind.wrap .i64 ((Int.ofNat (List.length (α := PV) r0_258)) + 1))) + (Int.tmod (IntKind.wrap .i64 n_262) (IntKind.wrap .i64 ((IntKind.wrap .i64 ((Int.ofNat (List.length (α := PV) r0_258)) - (Int.tmod (IntKind.wrap .i64 n_260) (IntKind.wrap .i64 ((Int.ofNat (List.length (α := PV) r0_258)) + 1))))) + 1))))) ≤ (Int.ofNat (List.length (α := PV) r0_258)) ∧ (Int.ofNat (List.length (α := PV) r0_258)) ≤ (Int.ofNat (List.length (α := PV) r0_258)) ∧ B12 r0_265 (cutL r0_258 (Int.toNat (IntKind.wrap .i64 ((Int.tmod (IntKind.wrap .i64 n_260) (IntKind.wrap .i64 ((Int.ofNat (List.length (α := PV) r0_258)) + 1))) + (Int.tmod (IntKind.wrap .i64 n_262) (IntKind.wrap .i64 ((IntKind.wrap .i64 ((Int.ofNat (List.length (α := PV) r0_258)) - (Int.tmod (IntKind.wrap .i64 n_260) (IntKind.wrap .i64 ((Int.ofNat (List.length (α := PV) r0_258)) + 1))))) + 1)))))) (List.length (α := PV) r0_258)) (fun r0_266 => B10 r0_258 (fun r0_267 => cond (decide (r0_266 = r0_267))
  (B10 [] (fun r0_268 => cond (decide (r0_268 = 0))
  (B13 (fun r0_269 => k0 r0_269))
  (k0 false)))
  (k0 false)))))))
def P6 : FnSem := fun bs t K =>
  consK t fun r1 r2 => asListK 5 r1 fun b0 => consK r2 fun r3 r4 => asArrK 2 r3 fun at1 => nilK r4 <| bNilK bs <| B6 b0 at1 (fun z0 => K [] [(.bool z0)])
def W6 : FnSem := fun bs t K => P6 bs (weakL [some 5, none] t) K
def T6 : List (FuncId × FnSem) := (5, W5) :: T5
def C6 : Ctx := ⟨pvT, pvG, lookΦ T6, pvRef, fun i => none, fun _ => none, fun i => List.getD [[0, 3], [0, 3], [0, 3, 5], [0, 5, 6], [0, 5, 6, 7], [0, 6, 7], [0, 6, 7], [4]] i [], 0, true, fun i => List.getD [] i []⟩
theorem B6_eq (b0 : List PV) (at1 : List PV) (K : List Blk → List PV → Prop) : evF C6 Try.f6 [] [(.list 5 b0), (.arr 2 at1)] K = (([] : List Blk).length = 0 ∧ B6 b0 at1 (fun z0 => K [] [(.bool z0)])) := by kernel_rfl
theorem T6_ok : AllSound Try.prog pvT pvG T6 := ⟨⟨W5_ok, fun a w => Try.call5 a w⟩, T5_ok⟩
theorem W6_ok : Sound Try.prog pvT pvG 6 W6 := Sound.weak (evF_sound (C := C6) (Base.of pvT_fits pvT_sized pvT_eq T6_ok pvMixed) Try.func6 (LoopsOk.of_loops (l := []) rfl (by kernel_rfl) trivial) (fun bs t K h0 => by
    unfold P6 at h0
    obtain ⟨r1, r2, rfl, h1⟩ := consK_inv h0
    obtain ⟨b0, rfl, h2⟩ := asListK_inv h1
    obtain ⟨r3, r4, rfl, h3⟩ := consK_inv h2
    obtain ⟨at1, rfl, h4⟩ := asArrK_inv h3
    obtain ⟨rfl, h5⟩ := nilK_inv h4
    obtain ⟨rfl, h6⟩ := bNilK_inv h5
    have h := h6
    exact Eq.mpr (B6_eq b0 at1 K) ⟨rfl, h⟩)) _
def S7_4 (a0 : List PV) (b1 : List PV) (c2 : List PV) (n7 : Int) (all8n : Nat) (i9 : Int) (x0 : List PV) (kn : Nat → Int → List PV → Prop) (k0 : Nat → Int → List PV → Prop) : Prop :=
  cond (decide (i9 < n7))
  ((0 : Int) ≤ i9 ∧ elemAt a0 (Int.toNat i9) fun e_276 => (0 : Int) ≤ i9 ∧ elemAt b1 (Int.toNat i9) fun e_277 => (0 : Int) ≤ i9 ∧ elemAt c2 (Int.toNat i9) fun e_278 => (asIntK .u8 e_276 fun n_279 => (asIntK .u8 e_277 fun n_280 => asIntK .u8 e_278 fun n_281 => 0 + 1 ≤ (List.length (α := PV) [(.int .u8 (bitsW .xor .u8 (bitsW .xor .u8 n_279 n_280) n_281))]) ∧ all8n = (List.length (α := PV) x0) ∧ (all8n + (List.length (α := PV) (rowPart [(.int .u8 (bitsW .xor .u8 (bitsW .xor .u8 n_279 n_280) n_281))] 0 1))) * 1 ≤ maxRoom ∧ kn (all8n + (List.length (α := PV) (rowPart [(.int .u8 (bitsW .xor .u8 (bitsW .xor .u8 n_279 n_280) n_281))] 0 1))) (IntKind.wrap .i64 (i9 + 1)) (x0 ++ (rowPart [(.int .u8 (bitsW .xor .u8 (bitsW .xor .u8 n_279 n_280) n_281))] 0 1))) ∧ (asIntK .u8 e_278 fun n_282 => asIntK .u8 e_277 fun n_283 => 0 + 1 ≤ (List.length (α := PV) [(.int .u8 (bitsW .xor .u8 (bitsW .xor .u8 n_279 n_283) n_282))]) ∧ all8n = (List.length (α := PV) x0) ∧ (all8n + (List.length (α := PV) (rowPart [(.int .u8 (bitsW .xor .u8 (bitsW .xor .u8 n_279 n_283) n_282))] 0 1))) * 1 ≤ maxRoom ∧ kn (all8n + (List.length (α := PV) (rowPart [(.int .u8 (bitsW .xor .u8 (bitsW .xor .u8 n_279 n_283) n_282))] 0 1))) (IntKind.wrap .i64 (i9 + 1)) (x0 ++ (rowPart [(.int .u8 (bitsW .xor .u8 (bitsW .xor .u8 n_279 n_283) n_282))] 0 1)))) ∧ ((asIntK .u8 e_277 fun n_284 => (asIntK .u8 e_276 fun n_285 => asIntK .u8 e_278 fun n_286 => 0 + 1 ≤ (List.length (α := PV) [(.int .u8 (bitsW .xor .u8 (bitsW .xor .u8 n_285 n_284) n_286))]) ∧ all8n = (List.length (α := PV) x0) ∧ (all8n + (List.length (α := PV) (rowPart [(.int .u8 (bitsW .xor .u8 (bitsW .xor .u8 n_285 n_284) n_286))] 0 1))) * 1 ≤ maxRoom ∧ kn (all8n + (List.length (α := PV) (rowPart [(.int .u8 (bitsW .xor .u8 (bitsW .xor .u8 n_285 n_284) n_286))] 0 1))) (IntKind.wrap .i64 (i9 + 1)) (x0 ++ (rowPart [(.int .u8 (bitsW .xor .u8 (bitsW .xor .u8 n_285 n_284) n_286))] 0 1))) ∧ (asIntK .u8 e_278 fun n_287 => asIntK .u8 e_276 fun n_288 => 0 + 1 ≤ (List.length (α := PV) [(.int .u8 (bitsW .xor .u8 (bitsW .xor .u8 n_288 n_284) n_287))]) ∧ all8n = (List.length (α := PV) x0) ∧ (all8n + (List.length (α := PV) (rowPart [(.int .u8 (bitsW .xor .u8 (bitsW .xor .u8 n_288 n_284) n_287))] 0 1))) * 1 ≤ maxRoom ∧ kn (all8n + (List.length (α := PV) (rowPart [(.int .u8 (bitsW .xor .u8 (bitsW .xor .u8 n_288 n_284) n_287))] 0 1))) (IntKind.wrap .i64 (i9 + 1)) (x0 ++ (rowPart [(.int .u8 (bitsW .xor .u8 (bitsW .xor .u8 n_288 n_284) n_287))] 0 1)))) ∧ (asIntK .u8 e_278 fun n_289 => (asIntK .u8 e_276 fun n_290 => asIntK .u8 e_277 fun n_291 => 0 + 1 ≤ (List.length (α := PV) [(.int .u8 (bitsW .xor .u8 (bitsW .xor .u8 n_290 n_291) n_289))]) ∧ all8n = (List.length (α := PV) x0) ∧ (all8n + (List.length (α := PV) (rowPart [(.int .u8 (bitsW .xor .u8 (bitsW .xor .u8 n_290 n_291) n_289))] 0 1))) * 1 ≤ maxRoom ∧ kn (all8n + (List.length (α := PV) (rowPart [(.int .u8 (bitsW .xor .u8 (bitsW .xor .u8 n_290 n_291) n_289))] 0 1))) (IntKind.wrap .i64 (i9 + 1)) (x0 ++ (rowPart [(.int .u8 (bitsW .xor .u8 (bitsW .xor .u8 n_290 n_291) n_289))] 0 1))) ∧ (asIntK .u8 e_277 fun n_292 => asIntK .u8 e_276 fun n_293 => 0 + 1 ≤ (List.length (α := PV) [(.int .u8 (bitsW .xor .u8 (bitsW .xor .u8 n_293 n_292) n_289))]) ∧ all8n = (List.length (α := PV) x0) ∧ (all8n + (List.length (α := PV) (rowPart [(.int .u8 (bitsW .xor .u8 (bitsW .xor .u8 n_293 n_292) n_289))] 0 1))) * 1 ≤ maxRoom ∧ kn (all8n + (List.length (α := PV) (rowPart [(.int .u8 (bitsW .xor .u8 (bitsW .xor .u8 n_293 n_292) n_289))] 0 1))) (IntKind.wrap .i64 (i9 + 1)) (x0 ++ (rowPart [(.int .u8 (bitsW .xor .u8 (bitsW .xor .u8 n_293 n_292) n_289))] 0 1))))))
  (k0 all8n i9 x0)
def R7_4 (a0 : List PV) (b1 : List PV) (c2 : List PV) (n7 : Int) (k0 : Nat → Int → List PV → Prop) : Nat → Nat → Int → List PV → Prop
  | 0, _, _, _ => False
  | n + 1, all8n, i9, x0 => S7_4 a0 b1 c2 n7 all8n i9 x0 (R7_4 a0 b1 c2 n7 k0 n) k0
def L7_4 (a0 : List PV) (b1 : List PV) (c2 : List PV) (n7 : Int) (all8n : Nat) (i9 : Int) (x0 : List PV) (k0 : Nat → Int → List PV → Prop) : Prop := ∃ n, R7_4 a0 b1 c2 n7 k0 n all8n i9 x0
def Q7_4 : LoopSem := fun t bs K =>
  consK t fun r1 r2 => asListK 5 r1 fun a0 => consK r2 fun r3 r4 => asListK 5 r3 fun b1 => consK r4 fun r5 r6 => asListK 5 r5 fun c2 => skipU 4 r6 fun r7 => consK r7 fun r8 r9 => asIntK .i64 r8 fun n7 => consK r9 fun r10 r11 => slK0 0 5 r10 fun all8n => consK r11 fun r12 r13 => asIntK .i64 r12 fun i9 => skipU 49 r13 fun r14 => nilK r14 <| bConsK bs fun r15 r16 => bRowK true 5 r15 fun x0 => bNilK r16 <| L7_4 a0 b1 c2 n7 all8n i9 x0 (fun z4 z5 z6 => K (.exit 0) ((.list 5 a0) :: (.list 5 b1) :: (.list 5 c2) :: skU 4 ((.int .i64 n7) :: (.sl 0 5 0 z4) :: (.int .i64 z5) :: skU 49 [])) [(.row true 5 z6)])
def B7 (a0 : List PV) (b1 : List PV) (c2 : List PV) (k0 : Bool → Prop) : Prop :=
  L7_4 a0 b1 c2 (if (1000 : Int) < (if (Int.ofNat (List.length (α := PV) c2)) < (if (Int.ofNat (List.length (α := PV) b1)) < (Int.ofNat (List.length (α := PV) a0)) then (Int.ofNat (List.length (α := PV) b1)) else (Int.ofNat (List.length (α := PV) a0))) then (Int.ofNat (List.length (α := PV) c2)) else (if (Int.ofNat (List.length (α := PV) b1)) < (Int.ofNat (List.length (α := PV) a0)) then (Int.ofNat (List.length (α := PV) b1)) else (Int.ofNat (List.length (α := PV) a0)))) then 1000 else (if (Int.ofNat (List.length (α := PV) c2)) < (if (Int.ofNat (List.length (α := PV) b1)) < (Int.ofNat (List.length (α := PV) a0)) then (Int.ofNat (List.length (α := PV) b1)) else (Int.ofNat (List.length (α := PV) a0))) then (Int.ofNat (List.length (α := PV) c2)) else (if (Int.ofNat (List.length (α := PV) b1)) < (Int.ofNat (List.length (α := PV) a0)) then (Int.ofNat (List.length (α := PV) b1)) else (Int.ofNat (List.length (α := PV) a0))))) 0 0 [] (fun all8n_294 i9_295 x0_296 => 0 ≤ (0 : Int) ∧ (0 : Int) ≤ (if (1000 : Int) < (if (Int.ofNat (List.length (α := PV) c2)) < (if (Int.ofNat (List.length (α := PV) b1)) < (Int.ofNat (List.length (α := PV) a0)) then (Int.ofNat (List.length (α := PV) b1)) else (Int.ofNat (List.length (α := PV) a0))) then (Int.ofNat (List.length (α := PV) c2)) else (if (Int.ofNat (List.length (α := PV) b1)) < (Int.ofNat (List.length (α := PV) a0)) then (Int.ofNat (List.length (α := PV) b1)) else (Int.ofNat (List.length (α := PV) a0)))) then 1000 else (if (Int.ofNat (List.length (α := PV) c2)) < (if (Int.ofNat (List.length (α := PV) b1)) < (Int.ofNat (List.length (α := PV) a0)) then (Int.ofNat (List.length (α := PV) b1)) else (Int.ofNat (List.length (α := PV) a0))) then (Int.ofNat (List.length (α := PV) c2)) else (if (Int.ofNat (List.length (α := PV) b1)) < (Int.ofNat (List.length (α := PV) a0)) then (Int.ofNat (List.length (α := PV) b1)) else (Int.ofNat (List.length (α := PV) a0))))) ∧ (if (1000 : Int) < (if (Int.ofNat (List.length (α := PV) c2)) < (if (Int.ofNat (List.length (α := PV) b1)) < (Int.ofNat (List.length (α := PV) a0)) then (Int.ofNat (List.length (α := PV) b1)) else (Int.ofNat (List.length (α := PV) a0))) then (Int.ofNat (List.length (α := PV) c2)) else (if (Int.ofNat (List.length (α := PV) b1)) < (Int.ofNat (List.length (α := PV) a0)) then (Int.ofNat (List.length (α := PV) b1)) else (Int.ofNat (List.length (α := PV) a0)))) then 1000 else (if (Int.ofNat (List.length (α := PV) c2)) < (if (Int.ofNat (List.length (α := PV) b1)) < (Int.ofNat (List.length (α := PV) a0)) then (Int.ofNat (List.length (α := PV) b1)) else (Int.ofNat (List.length (α := PV) a0))) then (Int.ofNat (List.length (α := PV) c2)) else (if (Int.ofNat (List.length (α := PV) b1)) < (Int.ofNat (List.length (α := PV) a0)) then (Int.ofNat (List.length (α := PV) b1)) else (Int.ofNat (List.length (α := PV) a0))))) ≤ (Int.ofNat (List.length (α := PV) a0)) ∧ 0 ≤ (0 : Int) ∧ (0 : Int) ≤ (if (1000 : Int) < (if (Int.ofNat (List.length (α := PV) c2)) < (if (Int.ofNat (List.length (α := PV) b1)) < (Int.ofNat (List.length (α := PV) a0)) then (Int.ofNat (List.length (α := PV) b1)) else (Int.ofNat (List.length (α := PV) a0))) then (Int.ofNat (List.length (α := PV) c2)) else (if (Int.ofNat (List.length (α := PV) b1)) < (Int.ofNat (List.length (α := PV) a0)) then (Int.ofNat (List.length (α := PV) b1)) else (Int.ofNat (List.length (α := PV) a0)))) then 1000 else (if (Int.ofNat (List.length (α := PV) c2)) < (if (Int.ofNat (List.length (α := PV) b1)) < (Int.ofNat (List.length (α := PV) a0)) then (Int.ofNat (List.length (α := PV) b1)) else (Int.ofNat (List.length (α := PV) a0))) then (Int.ofNat (List.length (α := PV) c2)) else (if (Int.ofNat (List.length (α := PV) b1)) < (Int.ofNat (List.length (α := PV) a0)) then (Int.ofNat (List.length (α := PV) b1)) else (Int.ofNat (List.length (α := PV) a0))))) ∧ (if (1000 : Int) < (if (Int.ofNat (List.length (α := PV) c2)) < (if (Int.ofNat (List.length (α := PV) b1)) < (Int.ofNat (List.length (α := PV) a0)) then (Int.ofNat (List.length (α := PV) b1)) else (Int.ofNat (List.length (α := PV) a0))) then (Int.ofNat (List.length (α := PV) c2)) else (if (Int.ofNat (List.length (α := PV) b1)) < (Int.ofNat (List.length (α := PV) a0)) then (Int.ofNat (List.length (α := PV) b1)) else (Int.ofNat (List.length (α := PV) a0)))) then 1000 else (if (Int.ofNat (List.length (α := PV) c2)) < (if (Int.ofNat (List.length (α := PV) b1)) < (Int.ofNat (List.length (α := PV) a0)) then (Int.ofNat (List.length (α := PV) b1)) else (Int.ofNat (List.length (α := PV) a0))) then (Int.ofNat (List.length (α := PV) c2)) else (if (Int.ofNat (List.length (α := PV) b1)) < (Int.ofNat (List.length (α := PV) a0)) then (Int.ofNat (List.length (α := PV) b1)) else (Int.ofNat (List.length (α := PV) a0))))) ≤ (Int.ofNat (List.length (α := PV) b1)) ∧ 0 ≤ (0 : Int) ∧ (0 : Int) ≤ (if (1000 : Int) < (if (Int.ofNat (List.length (α := PV) c2)) < (if (Int.ofNat (List.length (α := PV) b1)) < (Int.ofNat (List.length (α := PV) a0)) then (Int.ofNat (List.length (α := PV) b1)) else (Int.ofNat (List.length (α := PV) a0))) then (Int.ofNat (List.length (α := PV) c2)) else (if (Int.ofNat (List.length (α := PV) b1)) < (Int.ofNat (List.length (α := PV) a0)) then (Int.ofNat (List.length (α := PV) b1)) else (Int.ofNat (List.length (α := PV) a0)))) then 1000 else (if (Int.ofNat (List.length (α := PV) c2)) < (if (Int.ofNat (List.length (α := PV) b1)) < (Int.ofNat (List.length (α := PV) a0)) then (Int.ofNat (List.length (α := PV) b1)) else (Int.ofNat (List.length (α := PV) a0))) then (Int.ofNat (List.length (α := PV) c2)) else (if (Int.ofNat (List.length (α := PV) b1)) < (Int.ofNat (List.length (α := PV) a0)) then (Int.ofNat (List.length (α := PV) b1)) else (Int.ofNat (List.length (α := PV) a0))))) ∧ (if (1000 : Int) < (if (Int.ofNat (List.length (α := PV) c2)) < (if (Int.ofNat (List.length (α := PV) b1)) < (Int.ofNat (List.length (α := PV) a0)) then (Int.ofNat (List.length (α := PV) b1)) else (Int.ofNat (List.length (α := PV) a0))) then (Int.ofNat (List.length (α := PV) c2)) else (if (Int.ofNat (List.length (α := PV) b1)) < (Int.ofNat (List.length (α := PV) a0)) then (Int.ofNat (List.length (α := PV) b1)) else (Int.ofNat (List.length (α := PV) a0)))) then 1000 else (if (Int.ofNat (List.length (α := PV) c2)) < (if (Int.ofNat (List.length (α := PV) b1)) < (Int.ofNat (List.length (α := PV) a0)) then (Int.ofNat (List.length (α := PV) b1)) else (Int.ofNat (List.length (α := PV) a0))) then (Int.ofNat (List.length (α := PV) c2)) else (if (Int.ofNat (List.length (α := PV) b1)) < (Int.ofNat (List.length (α := PV) a0)) then (Int.ofNat (List.length (α := PV) b1)) else (Int.ofNat (List.length (α := PV) a0))))) ≤ (Int.ofNat (List.length (α := PV) c2)) ∧ 0 + all8n_294 ≤ (List.length (α := PV) x0_296) ∧ B10 (rowPart x0_296 0 all8n_294) (fun r0_297 => B10 (cutL a0 0 (Int.toNat (if (1000 : Int) < (if (Int.ofNat (List.length (α := PV) c2)) < (if (Int.ofNat (List.length (α := PV) b1)) < (Int.ofNat (List.length (α := PV) a0)) then (Int.ofNat (List.length (α := PV) b1)) else (Int.ofNat (List.length (α := PV) a0))) then (Int.ofNat (List.length (α := PV) c2)) else (if (Int.ofNat (List.length (α := PV) b1)) < (Int.ofNat (List.length (α := PV) a0)) then (Int.ofNat (List.length (α := PV) b1)) else (Int.ofNat (List.length (α := PV) a0)))) then 1000 else (if (Int.ofNat (List.length (α := PV) c2)) < (if (Int.ofNat (List.length (α := PV) b1)) < (Int.ofNat (List.length (α := PV) a0)) then (Int.ofNat (List.length (α := PV) b1)) else (Int.ofNat (List.length (α := PV) a0))) then (Int.ofNat (List.length (α := PV) c2)) else (if (Int.ofNat (List.length (α := PV) b1)) < (Int.ofNat (List.length (α := PV) a0)) then (Int.ofNat (List.length (α := PV) b1)) else (Int.ofNat (List.length (α := PV) a0))))))) (fun r0_298 => B10 (cutL b1 0 (Int.toNat (if (1000 : Int) < (if (Int.ofNat (List.length (α := PV) c2)) < (if (Int.ofNat (List.length (α := PV) b1)) < (Int.ofNat (List.length (α := PV) a0)) then (Int.ofNat (List.length (α := PV) b1)) else (Int.ofNat (List.length (α := PV) a0))) then (Int.ofNat (List.length (α := PV) c2)) else (if (Int.ofNat (List.length (α := PV) b1)) < (Int.ofNat (List.length (α := PV) a0)) then (Int.ofNat (List.length (α := PV) b1)) else (Int.ofNat (List.length (α := PV) a0)))) then 1000 else (if (Int.ofNat (List.length (α := PV) c2)) < (if (Int.ofNat (List.length (α := PV) b1)) < (Int.ofNat (List.length (α := PV) a0)) then (Int.ofNat (List.length (α := PV) b1)) else (Int.ofNat (List.length (α := PV) a0))) then (Int.ofNat (List.length (α := PV) c2)) else (if (Int.ofNat (List.length (α := PV) b1)) < (Int.ofNat (List.length (α := PV) a0)) then (Int.ofNat (List.length (α := PV) b1)) else (Int.ofNat (List.length (α := PV) a0))))))) (fun r0_299 => B10 (cutL c2 0 (Int.toNat (if (1000 : Int) < (if (Int.ofNat (List.length (α := PV) c2)) < (if (Int.ofNat (List.length (α := PV) b1)) < (Int.ofNat (List.length (α := PV) a0)) then (Int.ofNat (List.length (α := PV) b1)) else (Int.ofNat (List.length (α := PV) a0))) then (Int.ofNat (List.length (α := PV) c2)) else (if (Int.ofNat (List.length (α := PV) b1)) < (Int.ofNat (List.length (α := PV) a0)) then (Int.ofNat (List.length (α := PV) b1)) else (Int.ofNat (List.length (α := PV) a0)))) then 1000 else (if (Int.ofNat (List.length (α := PV) c2)) < (if (Int.ofNat (List.length (α := PV) b1)) < (Int.ofNat (List.length (α := PV) a0)) then (Int.ofNat (List.length (α := PV) b1)) else (Int.ofNat (List.length (α := PV) a0))) then (Int.ofNat (List.length (α := PV) c2)) else (if (Int.ofNat (List.length (α := PV) b1)) < (Int.ofNat (List.length (α := PV) a0)) then (Int.ofNat (List.length (α := PV) b1)) else (Int.ofNat (List.length (α := PV) a0))))))) (fun r0_300 => cond (decide (r0_297 = (bitsW .xor .u32 (bitsW .xor .u32 r0_298 r0_299) r0_300)))
  (B13 (fun r0_301 => k0 r0_301))
  (k0 false))))))
def P7 : FnSem := fun bs t K =>
  consK t fun r1 r2 => asListK 5 r1 fun a0 => consK r2 fun r3 r4 => asListK 5 r3 fun b1 => consK r4 fun r5 r6 => asListK 5 r5 fun c2 => nilK r6 <| bNilK bs <| B7 a0 b1 c2 (fun z0 => K [] [(.bool z0)])
def W7 : FnSem := fun bs t K => P7 bs (weakL [some 5, some 5, some 5] t) K
def T7 : List (FuncId × FnSem) := (6, W6) :: T6
def C7 : Ctx := ⟨pvT, pvG, lookΦ T7, pvRef, fun i => cond (Nat.beq i 4) (some Q7_4) (none), fun _ => none, fun i => List.getD [[0, 1, 2], [0, 1, 2, 7], [0, 1, 2, 7, 8], [0, 1, 2, 7, 8, 9], [0, 1, 2, 7, 8, 9, 19], [0, 1, 2, 7, 8, 9], [0, 1, 2, 7, 8, 9], [6]] i [], 0, true, fun i => List.getD [[], [], [], [(8, 5)], [], [], [], []] i []⟩
theorem S7_4_eq (a0 : List PV) (b1 : List PV) (c2 : List PV) (n7 : Int) (all8n : Nat) (i9 : Int) (x0 : List PV) (G : Ex → St → Prop) : evC C7 (codeOf Try.f7 [1, 1, 1, 0, 1, 0, 0]) (mkSt ((.list 5 a0) :: (.list 5 b1) :: (.list 5 c2) :: skU 4 ((.int .i64 n7) :: (.sl 0 5 0 all8n) :: (.int .i64 i9) :: skU 49 [])) [(.row true 5 x0)]) G = S7_4 a0 b1 c2 n7 all8n i9 x0 (fun all8n i9 x0 => G .normal (mkSt ((.list 5 a0) :: (.list 5 b1) :: (.list 5 c2) :: skU 4 ((.int .i64 n7) :: (.sl 0 5 0 all8n) :: (.int .i64 i9) :: skU 49 [])) [(.row true 5 x0)])) (fun z4 z5 z6 => G (.exit 0) (mkSt ((.list 5 a0) :: (.list 5 b1) :: (.list 5 c2) :: skU 4 ((.int .i64 n7) :: (.sl 0 5 0 z4) :: (.int .i64 z5) :: skU 49 [])) [(.row true 5 z6)])) := by kernel_rfl
theorem R7_4_eq (a0 : List PV) (b1 : List PV) (c2 : List PV) (n7 : Int) (G : Ex → St → Prop) : ∀ (n : Nat) (all8n : Nat) (i9 : Int) (x0 : List PV), evLoop C7 (codeOf Try.f7 [1, 1, 1, 0, 1, 0, 0]) n (mkSt ((.list 5 a0) :: (.list 5 b1) :: (.list 5 c2) :: skU 4 ((.int .i64 n7) :: (.sl 0 5 0 all8n) :: (.int .i64 i9) :: skU 49 [])) [(.row true 5 x0)]) G = R7_4 a0 b1 c2 n7 (fun z4 z5 z6 => G (.exit 0) (mkSt ((.list 5 a0) :: (.list 5 b1) :: (.list 5 c2) :: skU 4 ((.int .i64 n7) :: (.sl 0 5 0 z4) :: (.int .i64 z5) :: skU 49 [])) [(.row true 5 z6)])) n all8n i9 x0
  | 0, _, _, _ => rfl
  | n + 1, all8n, i9, x0 => (S7_4_eq a0 b1 c2 n7 all8n i9 x0 (fun e s => match e with | .normal => evLoop C7 (codeOf Try.f7 [1, 1, 1, 0, 1, 0, 0]) n s G | .exit id => G (.exit id) s | .ret => G .ret s)).trans (congrArg (fun q => S7_4 a0 b1 c2 n7 all8n i9 x0 q (fun z4 z5 z6 => G (.exit 0) (mkSt ((.list 5 a0) :: (.list 5 b1) :: (.list 5 c2) :: skU 4 ((.int .i64 n7) :: (.sl 0 5 0 z4) :: (.int .i64 z5) :: skU 49 [])) [(.row true 5 z6)]))) (funext fun all8n => funext fun i9 => funext fun x0 => R7_4_eq a0 b1 c2 n7 G n all8n i9 x0))
theorem Q7_4_ok : LoopOk C7 (codeOf Try.f7 [1, 1, 1, 0, 1, 0, 0]) := LoopOk.of (l := Q7_4) (by kernel_rfl) (fun t bs K h0 => by
    unfold Q7_4 at h0
    obtain ⟨r1, r2, rfl, h1⟩ := consK_inv h0
    obtain ⟨a0, rfl, h2⟩ := asListK_inv h1
    obtain ⟨r3, r4, rfl, h3⟩ := consK_inv h2
    obtain ⟨b1, rfl, h4⟩ := asListK_inv h3
    obtain ⟨r5, r6, rfl, h5⟩ := consK_inv h4
    obtain ⟨c2, rfl, h6⟩ := asListK_inv h5
    obtain ⟨r7, rfl, h7⟩ := skipU_inv h6
    obtain ⟨r8, r9, rfl, h8⟩ := consK_inv h7
    obtain ⟨n7, rfl, h9⟩ := asIntK_inv h8
    obtain ⟨r10, r11, rfl, h10⟩ := consK_inv h9
    obtain ⟨all8n, rfl, h11⟩ := slK0_inv h10
    obtain ⟨r12, r13, rfl, h12⟩ := consK_inv h11
    obtain ⟨i9, rfl, h13⟩ := asIntK_inv h12
    obtain ⟨r14, rfl, h14⟩ := skipU_inv h13
    obtain ⟨rfl, h15⟩ := nilK_inv h14
    obtain ⟨r15, r16, rfl, h16⟩ := bConsK_inv h15
    obtain ⟨x0, rfl, h17⟩ := bRowK_inv h16
    obtain ⟨rfl, h18⟩ := bNilK_inv h17
    have h := h18
    obtain ⟨n, hn⟩ := h
    exact ⟨n, Eq.mpr (R7_4_eq a0 b1 c2 n7 (onSt K) n all8n i9 x0) hn⟩)
theorem B7_eq (a0 : List PV) (b1 : List PV) (c2 : List PV) (K : List Blk → List PV → Prop) : evF C7 Try.f7 [] [(.list 5 a0), (.list 5 b1), (.list 5 c2)] K = (([] : List Blk).length = 0 ∧ B7 a0 b1 c2 (fun z0 => K [] [(.bool z0)])) := by kernel_rfl
theorem T7_ok : AllSound Try.prog pvT pvG T7 := ⟨⟨W6_ok, fun a w => Try.call6 a w⟩, T6_ok⟩
theorem W7_ok : Sound Try.prog pvT pvG 7 W7 := Sound.weak (evF_sound (C := C7) (Base.of pvT_fits pvT_sized pvT_eq T7_ok pvMixed) Try.func7 (LoopsOk.of_loops (l := [codeOf Try.f7 [1, 1, 1, 0, 1, 0, 0]]) rfl (by kernel_rfl) ⟨Q7_4_ok, trivial⟩) (fun bs t K h0 => by
    unfold P7 at h0
    obtain ⟨r1, r2, rfl, h1⟩ := consK_inv h0
    obtain ⟨a0, rfl, h2⟩ := asListK_inv h1
    obtain ⟨r3, r4, rfl, h3⟩ := consK_inv h2
    obtain ⟨b1, rfl, h4⟩ := asListK_inv h3
    obtain ⟨r5, r6, rfl, h5⟩ := consK_inv h4
    obtain ⟨c2, rfl, h6⟩ := asListK_inv h5
    obtain ⟨rfl, h7⟩ := nilK_inv h6
    obtain ⟨rfl, h8⟩ := bNilK_inv h7
    have h := h8
    exact Eq.mpr (B7_eq a0 b1 c2 K) ⟨rfl, h⟩)) _
def S8_3 (ones1n : Nat) (i2 : Int) (x0 : List PV) (kn : Int → List PV → Prop) (k0 : Int → List PV → Prop) : Prop :=
  cond (decide (i2 < 32))
  ((0 : Int) ≤ i2 ∧ i2 < (Int.ofNat ones1n) ∧ elemAt x0 (0 + (Int.toNat i2)) fun _ => kn (IntKind.wrap .i64 (i2 + 1)) (List.set x0 (0 + (Int.toNat i2)) (.int .u8 255)))
  (k0 i2 x0)
def R8_3 (ones1n : Nat) (k0 : Int → List PV → Prop) : Nat → Int → List PV → Prop
  | 0, _, _ => False
  | n + 1, i2, x0 => S8_3 ones1n i2 x0 (R8_3 ones1n k0 n) k0
def L8_3 (ones1n : Nat) (i2 : Int) (x0 : List PV) (k0 : Int → List PV → Prop) : Prop := ∃ n, R8_3 ones1n k0 n i2 x0
def Q8_3 : LoopSem := fun t bs K =>
  skipU 1 t fun r1 => consK r1 fun r2 r3 => slK0 0 5 r2 fun ones1n => consK r3 fun r4 r5 => asIntK .i64 r4 fun i2 => skipU 55 r5 fun r6 => nilK r6 <| bConsK bs fun r7 r8 => bRowK true 5 r7 fun x0 => bNilK r8 <| L8_3 ones1n i2 x0 (fun z1 z2 => K (.exit 0) (skU 1 ((.sl 0 5 0 ones1n) :: (.int .i64 z1) :: skU 55 [])) [(.row true 5 z2)])
def B8 (k0 : Bool → Prop) : Prop :=
  ((0 : Int) ≤ 32 ∧ (32 : Int) ≤ 32 ∧ (32 : Int) * 1 ≤ maxRoom ∧ (32 : Int) ≤ maxRoom) ∧ L8_3 32 0 (List.replicate 32 (.int .u8 0)) (fun i2_303 x0_304 => 0 + 3 ≤ (List.length (α := PV) [(.int .u8 1), (.int .u8 2), (.int .u8 3)]) ∧ B14 (rowPart [(.int .u8 1), (.int .u8 2), (.int .u8 3)] 0 3) (fun r1_305 => 0 + 4 ≤ (List.length (α := PV) [(.int .u8 0), (.int .u8 0), (.int .u8 0), (.int .u8 0)]) ∧ B14 (rowPart [(.int .u8 0), (.int .u8 0), (.int .u8 0), (.int .u8 0)] 0 4) (fun r1_306 => B10 [] (fun r0_307 => cond (decide (r0_307 = 0))
  (0 + 9 ≤ (List.length (α := PV) [(.int .u8 49), (.int .u8 50), (.int .u8 51), (.int .u8 52), (.int .u8 53), (.int .u8 54), (.int .u8 55), (.int .u8 56), (.int .u8 57)]) ∧ B10 (rowPart [(.int .u8 49), (.int .u8 50), (.int .u8 51), (.int .u8 52), (.int .u8 53), (.int .u8 54), (.int .u8 55), (.int .u8 56), (.int .u8 57)] 0 9) (fun r0_308 => cond (decide (r0_308 = 3808858755))
  (((0 : Int) ≤ 32 ∧ (32 : Int) ≤ 32 ∧ (32 : Int) * 1 ≤ maxRoom ∧ (32 : Int) ≤ maxRoom) ∧ 0 + 32 ≤ (List.length (α := PV) (List.replicate 32 (.int .u8 0))) ∧ B10 (rowPart (List.replicate 32 (.int .u8 0)) 0 32) (fun r0_309 => cond (decide (r0_309 = 2324772522))
  (0 + 32 ≤ (List.length (α := PV) x0_304) ∧ B10 (rowPart x0_304 0 32) (fun r0_310 => cond (decide (r0_310 = 1655221059))
  (cond (!r1_305)
  (cond r1_306
  (cond (decide ((0 : Int) = 0))
  (B13 (fun r0_311 => k0 r0_311))
  (k0 false))
  (k0 false))
  (k0 false))
  (k0 false)))
  (k0 false)))
  (k0 false)))
  (k0 false))) (fun r0n_312 r1_313 x0_314 => B10 [] (fun r0_315 => cond (decide (r0_315 = 0))
  (0 + 9 ≤ (List.length (α := PV) [(.int .u8 49), (.int .u8 50), (.int .u8 51), (.int .u8 52), (.int .u8 53), (.int .u8 54), (.int .u8 55), (.int .u8 56), (.int .u8 57)]) ∧ B10 (rowPart [(.int .u8 49), (.int .u8 50), (.int .u8 51), (.int .u8 52), (.int .u8 53), (.int .u8 54), (.int .u8 55), (.int .u8 56), (.int .u8 57)] 0 9) (fun r0_316 => cond (decide (r0_316 = 3808858755))
  (((0 : Int) ≤ 32 ∧ (32 : Int) ≤ 32 ∧ (32 : Int) * 1 ≤ maxRoom ∧ (32 : Int) ≤ maxRoom) ∧ 0 + 32 ≤ (List.length (α := PV) (List.replicate 32 (.int .u8 0))) ∧ B10 (rowPart (List.replicate 32 (.int .u8 0)) 0 32) (fun r0_317 => cond (decide (r0_317 = 2324772522))
  (0 + 32 ≤ (List.length (α := PV) x0_304) ∧ B10 (rowPart x0_304 0 32) (fun r0_318 => cond (decide (r0_318 = 1655221059))
  (cond (!r1_305)
  (cond r1_313
  (cond (decide ((Int.ofNat r0n_312) = 0))
  (B13 (fun r0_319 => k0 r0_319))
  (k0 false))
  (k0 false))
  (k0 false))
  (k0 false)))
  (k0 false)))
  (k0 false)))
  (k0 false)))) (fun r0n_320 r1_321 x0_322 => 0 + 4 ≤ (List.length (α := PV) [(.int .u8 0), (.int .u8 0), (.int .u8 0), (.int .u8 0)]) ∧ B14 (rowPart [(.int .u8 0), (.int .u8 0), (.int .u8 0), (.int .u8 0)] 0 4) (fun r1_323 => B10 [] (fun r0_324 => cond (decide (r0_324 = 0))
  (0 + 9 ≤ (List.length (α := PV) [(.int .u8 49), (.int .u8 50), (.int .u8 51), (.int .u8 52), (.int .u8 53), (.int .u8 54), (.int .u8 55), (.int .u8 56), (.int .u8 57)]) ∧ B10 (rowPart [(.int .u8 49), (.int .u8 50), (.int .u8 51), (.int .u8 52), (.int .u8 53), (.int .u8 54), (.int .u8 55), (.int .u8 56), (.int .u8 57)] 0 9) (fun r0_325 => cond (decide (r0_325 = 3808858755))
  (((0 : Int) ≤ 32 ∧ (32 : Int) ≤ 32 ∧ (32 : Int) * 1 ≤ maxRoom ∧ (32 : Int) ≤ maxRoom) ∧ 0 + 32 ≤ (List.length (α := PV) (List.replicate 32 (.int .u8 0))) ∧ B10 (rowPart (List.replicate 32 (.int .u8 0)) 0 32) (fun r0_326 => cond (decide (r0_326 = 2324772522))
  (0 + 32 ≤ (List.length (α := PV) x0_304) ∧ B10 (rowPart x0_304 0 32) (fun r0_327 => cond (decide (r0_327 = 1655221059))
  (cond (!r1_321)
  (cond r1_323
  (cond (decide ((0 : Int) = 0))
  (B13 (fun r0_328 => k0 r0_328))
  (k0 false))
  (k0 false))
  (k0 false))
  (k0 false)))
  (k0 false)))
  (k0 false)))
  (k0 false))) (fun r0n_329 r1_330 x0_331 => B10 [] (fun r0_332 => cond (decide (r0_332 = 0))
  (0 + 9 ≤ (List.length (α := PV) [(.int .u8 49), (.int .u8 50), (.int .u8 51), (.int .u8 52), (.int .u8 53), (.int .u8 54), (.int .u8 55), (.int .u8 56), (.int .u8 57)]) ∧ B10 (rowPart [(.int .u8 49), (.int .u8 50), (.int .u8 51), (.int .u8 52), (.int .u8 53), (.int .u8 54), (.int .u8 55), (.int .u8 56), (.int .u8 57)] 0 9) (fun r0_333 => cond (decide (r0_333 = 3808858755))
  (((0 : Int) ≤ 32 ∧ (32 : Int) ≤ 32 ∧ (32 : Int) * 1 ≤ maxRoom ∧ (32 : Int) ≤ maxRoom) ∧ 0 + 32 ≤ (List.length (α := PV) (List.replicate 32 (.int .u8 0))) ∧ B10 (rowPart (List.replicate 32 (.int .u8 0)) 0 32) (fun r0_334 => cond (decide (r0_334 = 2324772522))
  (0 + 32 ≤ (List.length (α := PV) x0_304) ∧ B10 (rowPart x0_304 0 32) (fun r0_335 => cond (decide (r0_335 = 1655221059))
  (cond (!r1_321)
  (cond r1_330
  (cond (decide ((Int.ofNat r0n_329) = 0))
  (B13 (fun r0_336 => k0 r0_336))
  (k0 false))
  (k0 false))
  (k0 false))
  (k0 false)))
  (k0 false)))
  (k0 false)))
  (k0 false)))))
def P8 : FnSem := fun bs t K =>
  nilK t <| bNilK bs <| B8  (fun z0 => K [] [(.bool z0)])
def W8 : FnSem := fun bs t K => P8 bs (weakL [] t) K
def T8 : List (FuncId × FnSem) := (7, W7) :: T7
def C8 : Ctx := ⟨pvT, pvG, lookΦ T8, pvRef, fun i => cond (Nat.beq i 3) (some Q8_3) (none), fun _ => none, fun i => List.getD [[], [1], [1, 2], [1, 2, 9], [1, 2], [1, 2], [1, 4], [1, 4, 5, 6], [0]] i [], 0, true, fun i => List.getD [] i []⟩
theorem S8_3_eq (ones1n : Nat) (i2 : Int) (x0 : List PV) (G : Ex → St → Prop) : evC C8 (codeOf Try.f8 [1, 1, 0, 1, 0, 0]) (mkSt (skU 1 ((.sl 0 5 0 ones1n) :: (.int .i64 i2) :: skU 55 [])) [(.row true 5 x0)]) G = S8_3 ones1n i2 x0 (fun i2 x0 => G .normal (mkSt (skU 1 ((.sl 0 5 0 ones1n) :: (.int .i64 i2) :: skU 55 [])) [(.row true 5 x0)])) (fun z1 z2 => G (.exit 0) (mkSt (skU 1 ((.sl 0 5 0 ones1n) :: (.int .i64 z1) :: skU 55 [])) [(.row true 5 z2)])) := by kernel_rfl
theorem R8_3_eq (ones1n : Nat) (G : Ex → St → Prop) : ∀ (n : Nat) (i2 : Int) (x0 : List PV), evLoop C8 (codeOf Try.f8 [1, 1, 0, 1, 0, 0]) n (mkSt (skU 1 ((.sl 0 5 0 ones1n) :: (.int .i64 i2) :: skU 55 [])) [(.row true 5 x0)]) G = R8_3 ones1n (fun z1 z2 => G (.exit 0) (mkSt (skU 1 ((.sl 0 5 0 ones1n) :: (.int .i64 z1) :: skU 55 [])) [(.row true 5 z2)])) n i2 x0
  | 0, _, _ => rfl
  | n + 1, i2, x0 => (S8_3_eq ones1n i2 x0 (fun e s => match e with | .normal => evLoop C8 (codeOf Try.f8 [1, 1, 0, 1, 0, 0]) n s G | .exit id => G (.exit id) s | .ret => G .ret s)).trans (congrArg (fun q => S8_3 ones1n i2 x0 q (fun z1 z2 => G (.exit 0) (mkSt (skU 1 ((.sl 0 5 0 ones1n) :: (.int .i64 z1) :: skU 55 [])) [(.row true 5 z2)]))) (funext fun i2 => funext fun x0 => R8_3_eq ones1n G n i2 x0))
theorem Q8_3_ok : LoopOk C8 (codeOf Try.f8 [1, 1, 0, 1, 0, 0]) := LoopOk.of (l := Q8_3) (by kernel_rfl) (fun t bs K h0 => by
    unfold Q8_3 at h0
    obtain ⟨r1, rfl, h1⟩ := skipU_inv h0
    obtain ⟨r2, r3, rfl, h2⟩ := consK_inv h1
    obtain ⟨ones1n, rfl, h3⟩ := slK0_inv h2
    obtain ⟨r4, r5, rfl, h4⟩ := consK_inv h3
    obtain ⟨i2, rfl, h5⟩ := asIntK_inv h4
    obtain ⟨r6, rfl, h6⟩ := skipU_inv h5
    obtain ⟨rfl, h7⟩ := nilK_inv h6
    obtain ⟨r7, r8, rfl, h8⟩ := bConsK_inv h7
    obtain ⟨x0, rfl, h9⟩ := bRowK_inv h8
    obtain ⟨rfl, h10⟩ := bNilK_inv h9
    have h := h10
    obtain ⟨n, hn⟩ := h
    exact ⟨n, Eq.mpr (R8_3_eq ones1n (onSt K) n i2 x0) hn⟩)
theorem B8_eq (K : List Blk → List PV → Prop) : evF C8 Try.f8 [] [] K = (([] : List Blk).length = 0 ∧ B8  (fun z0 => K [] [(.bool z0)])) := by kernel_rfl
theorem T8_ok : AllSound Try.prog pvT pvG T8 := ⟨⟨W7_ok, fun a w => Try.call7 a w⟩, T7_ok⟩
theorem W8_ok : Sound Try.prog pvT pvG 8 W8 := Sound.weak (evF_sound (C := C8) (Base.of pvT_fits pvT_sized pvT_eq T8_ok pvMixed) Try.func8 (LoopsOk.of_loops (l := [codeOf Try.f8 [1, 1, 0, 1, 0, 0]]) rfl (by kernel_rfl) ⟨Q8_3_ok, trivial⟩) (fun bs t K h0 => by
    unfold P8 at h0
    obtain ⟨rfl, h1⟩ := nilK_inv h0
    obtain ⟨rfl, h2⟩ := bNilK_inv h1
    have h := h2
    exact Eq.mpr (B8_eq  K) ⟨rfl, h⟩)) _
end Pv
