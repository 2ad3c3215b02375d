/- A part of the proof. No conditions of its own beyond those that its theorems name. -/
import Derived.Test.YthdpkcolbgoecaaFn
import Derived.Test.YthdpkcolbgoecaaGe
import Derived.Test.YthdpkcolbgoecaaProg
import Derived.KernelRfl

namespace Pv
open Go Go.Proofs

def pvT : Tab := [⟨.other, 0, 0, .undef, []⟩,
  ⟨.func, 1, 8, .nilf, []⟩,
  ⟨.int .i64, 1, 8, (.int .i64 0), []⟩,
  ⟨.int .i64, 1, 8, (.int .i64 0), []⟩,
  ⟨.bool, 1, 1, (.bool false), []⟩,
  ⟨.int .u8, 1, 1, (.int .u8 0), []⟩,
  ⟨.int .u8, 1, 1, (.int .u8 0), []⟩,
  ⟨.struct [(0, 2), (1, 3), (2, 4), (3, 6)], 4, 24, (.agg [(.int .i64 0), (.int .i64 0), (.bool false), (.int .u8 0)]), []⟩,
  ⟨.struct [(0, 2), (1, 3), (2, 4), (3, 6)], 4, 24, (.agg [(.int .i64 0), (.int .i64 0), (.bool false), (.int .u8 0)]), []⟩,
  ⟨.str, 1, 16, (.str .empty), []⟩,
  ⟨.str, 1, 16, (.str .empty), []⟩,
  ⟨.str, 1, 16, (.str .empty), []⟩,
  ⟨.int .u64, 1, 8, (.int .u64 0), []⟩,
  ⟨.struct [(0, 9), (1, 12)], 2, 24, (.agg [(.str .empty), (.int .u64 0)]), []⟩,
  ⟨.struct [(0, 9), (1, 12)], 2, 24, (.agg [(.str .empty), (.int .u64 0)]), []⟩,
  ⟨.ptr 159, 1, 8, .nilp, []⟩,
  ⟨.ptr 162, 1, 8, .nilp, []⟩,
  ⟨.ptr 169, 1, 8, .nilp, []⟩,
  ⟨.struct [(0, 17)], 1, 8, (.agg [.nilp]), []⟩,
  ⟨.struct [(0, 17)], 1, 8, (.agg [.nilp]), []⟩,
  ⟨.other, 0, 0, .undef, []⟩,
  ⟨.int .i32, 1, 4, (.int .i32 0), []⟩,
  ⟨.slice 34, 1, 24, .nilsl, []⟩,
  ⟨.func, 1, 8, .nilf, []⟩,
  ⟨.ptr 64, 1, 8, .nilp, []⟩,
  ⟨.int .i64, 1, 8, (.int .i64 0), []⟩,
  ⟨.other, 0, 0, .undef, []⟩,
  ⟨.func, 1, 8, .nilf, []⟩,
  ⟨.ptr 57, 1, 8, .nilp, []⟩,
  ⟨.other, 0, 0, .undef, []⟩,
  ⟨.func, 1, 8, .nilf, []⟩,
  ⟨.map 9 74, 1, 8, .nilm, []⟩,
  ⟨.slice 36, 1, 24, .nilsl, []⟩,
  ⟨.struct [(0, 32), (1, 4), (2, 5), (3, 5)], 4, 32, (.agg [.nilsl, (.bool false), (.int .u8 0), (.int .u8 0)]), []⟩,
  ⟨.struct [(0, 32), (1, 4), (2, 5), (3, 5)], 4, 32, (.agg [.nilsl, (.bool false), (.int .u8 0), (.int .u8 0)]), []⟩,
  ⟨.struct [(0, 9), (1, 9)], 2, 32, (.agg [(.str .empty), (.str .empty)]), []⟩,
  ⟨.struct [(0, 9), (1, 9)], 2, 32, (.agg [(.str .empty), (.str .empty)]), []⟩,
  ⟨.func, 1, 8, .nilf, []⟩,
  ⟨.func, 1, 8, .nilf, []⟩,
  ⟨.func, 1, 8, .nilf, []⟩,
  ⟨.func, 1, 8, .nilf, []⟩,
  ⟨.func, 1, 8, .nilf, []⟩,
  ⟨.func, 1, 8, .nilf, []⟩,
  ⟨.other, 0, 0, .undef, []⟩,
  ⟨.func, 1, 8, .nilf, []⟩,
  ⟨.func, 1, 8, .nilf, []⟩,
  ⟨.slice 9, 1, 24, .nilsl, []⟩,
  ⟨.func, 1, 8, .nilf, []⟩,
  ⟨.func, 1, 8, .nilf, []⟩,
  ⟨.func, 1, 8, .nilf, []⟩,
  ⟨.func, 1, 8, .nilf, []⟩,
  ⟨.map 9 77, 1, 8, .nilm, []⟩,
  ⟨.int .u64, 1, 8, (.int .u64 0), []⟩,
  ⟨.int .u32, 1, 4, (.int .u32 0), []⟩,
  ⟨.struct [(0, 52), (1, 3), (2, 3), (3, 53)], 4, 32, (.agg [(.int .u64 0), (.int .i64 0), (.int .i64 0), (.int .u32 0)]), []⟩,
  ⟨.struct [(0, 52), (1, 3), (2, 3), (3, 53)], 4, 32, (.agg [(.int .u64 0), (.int .i64 0), (.int .i64 0), (.int .u32 0)]), []⟩,
  ⟨.struct [(0, 24), (1, 51), (2, 55), (6, 3), (7, 52), (8, 4)], 9, 72, (.agg [.nilp, .nilm, (.agg [(.int .u64 0), (.int .i64 0), (.int .i64 0), (.int .u32 0)]), (.int .i64 0), (.int .u64 0), (.bool false)]), []⟩,
  ⟨.struct [(0, 24), (1, 51), (2, 55), (6, 3), (7, 52), (8, 4)], 9, 72, (.agg [.nilp, .nilm, (.agg [(.int .u64 0), (.int .i64 0), (.int .i64 0), (.int .u32 0)]), (.int .i64 0), (.int .u64 0), (.bool false)]), []⟩,
  ⟨.other, 0, 0, .undef, []⟩,
  ⟨.func, 1, 8, .nilf, []⟩,
  ⟨.func, 1, 8, .nilf, []⟩,
  ⟨.slice 5, 1, 24, .nilsl, []⟩,
  ⟨.slice 111, 1, 24, .nilsl, []⟩,
  ⟨.struct [(0, 62), (1, 4), (2, 4), (3, 3), (4, 3), (5, 3)], 6, 56, (.agg [.nilsl, (.bool false), (.bool false), (.int .i64 0), (.int .i64 0), (.int .i64 0)]), []⟩,
  ⟨.struct [(0, 62), (1, 4), (2, 4), (3, 3), (4, 3), (5, 3)], 6, 56, (.agg [.nilsl, (.bool false), (.bool false), (.int .i64 0), (.int .i64 0), (.int .i64 0)]), []⟩,
  ⟨.other, 0, 0, .undef, []⟩,
  ⟨.func, 1, 8, .nilf, []⟩,
  ⟨.other, 0, 0, .undef, []⟩,
  ⟨.func, 1, 8, .nilf, []⟩,
  ⟨.func, 1, 8, .nilf, []⟩,
  ⟨.func, 1, 8, .nilf, []⟩,
  ⟨.other, 0, 0, .undef, []⟩,
  ⟨.func, 1, 8, .nilf, []⟩,
  ⟨.struct [(0, 9)], 1, 16, (.agg [(.str .empty)]), []⟩,
  ⟨.struct [(0, 9)], 1, 16, (.agg [(.str .empty)]), []⟩,
  ⟨.func, 1, 8, .nilf, []⟩,
  ⟨.struct [(0, 9)], 1, 16, (.agg [(.str .empty)]), []⟩,
  ⟨.struct [(0, 9)], 1, 16, (.agg [(.str .empty)]), [.str]⟩,
  ⟨.func, 1, 8, .nilf, []⟩,
  ⟨.func, 1, 8, .nilf, []⟩,
  ⟨.func, 1, 8, .nilf, []⟩,
  ⟨.other, 0, 0, .undef, []⟩,
  ⟨.func, 1, 8, .nilf, []⟩,
  ⟨.struct [(0, 3), (1, 61)], 2, 32, (.agg [(.int .i64 0), .nilsl]), []⟩,
  ⟨.func, 1, 8, .nilf, []⟩,
  ⟨.slice 83, 1, 24, .nilsl, []⟩,
  ⟨.other, 0, 0, .undef, []⟩,
  ⟨.func, 1, 8, .nilf, []⟩,
  ⟨.func, 1, 8, .nilf, []⟩,
  ⟨.func, 1, 8, .nilf, []⟩,
  ⟨.func, 1, 8, .nilf, []⟩,
  ⟨.func, 1, 8, .nilf, []⟩,
  ⟨.int .u64, 1, 8, (.int .u64 0), []⟩,
  ⟨.other, 0, 0, .undef, []⟩,
  ⟨.func, 1, 8, .nilf, []⟩,
  ⟨.ptr 97, 1, 8, .nilp, []⟩,
  ⟨.struct [(0, 95), (1, 61)], 2, 32, (.agg [.nilp, .nilsl]), []⟩,
  ⟨.struct [(0, 95), (1, 61)], 2, 32, (.agg [.nilp, .nilsl]), []⟩,
  ⟨.func, 1, 8, .nilf, []⟩,
  ⟨.other, 0, 0, .undef, []⟩,
  ⟨.other, 0, 0, .undef, []⟩,
  ⟨.other, 0, 0, .undef, []⟩,
  ⟨.func, 1, 8, .nilf, []⟩,
  ⟨.func, 1, 8, .nilf, []⟩,
  ⟨.other, 0, 0, .undef, []⟩,
  ⟨.func, 1, 8, .nilf, []⟩,
  ⟨.ptr 132, 1, 8, .nilp, []⟩,
  ⟨.func, 1, 8, .nilf, []⟩,
  ⟨.func, 1, 8, .nilf, []⟩,
  ⟨.func, 1, 8, .nilf, []⟩,
  ⟨.array 128 5, 128, 128, (.arr 128 (List.replicate 128 (.int .u8 0))), []⟩,
  ⟨.array 128 5, 128, 128, (.arr 128 (List.replicate 128 (.int .u8 0))), []⟩,
  ⟨.func, 1, 8, .nilf, []⟩,
  ⟨.other, 0, 0, .undef, []⟩,
  ⟨.func, 1, 8, .nilf, []⟩,
  ⟨.func, 1, 8, .nilf, []⟩,
  ⟨.func, 1, 8, .nilf, []⟩,
  ⟨.func, 1, 8, .nilf, []⟩,
  ⟨.func, 1, 8, .nilf, []⟩,
  ⟨.func, 1, 8, .nilf, []⟩,
  ⟨.func, 1, 8, .nilf, []⟩,
  ⟨.func, 1, 8, .nilf, []⟩,
  ⟨.other, 0, 0, .undef, []⟩,
  ⟨.func, 1, 8, .nilf, []⟩,
  ⟨.other, 0, 0, .undef, []⟩,
  ⟨.func, 1, 8, .nilf, []⟩,
  ⟨.ptr 5, 1, 8, .nilp, []⟩,
  ⟨.func, 1, 8, .nilf, []⟩,
  ⟨.func, 1, 8, .nilf, []⟩,
  ⟨.func, 1, 8, .nilf, []⟩,
  ⟨.func, 1, 8, .nilf, []⟩,
  ⟨.struct [(0, 61), (1, 4), (2, 4)], 3, 32, (.agg [.nilsl, (.bool false), (.bool false)]), []⟩,
  ⟨.struct [(0, 61), (1, 4), (2, 4)], 3, 32, (.agg [.nilsl, (.bool false), (.bool false)]), []⟩,
  ⟨.func, 1, 8, .nilf, []⟩,
  ⟨.func, 1, 8, .nilf, []⟩,
  ⟨.func, 1, 8, .nilf, []⟩,
  ⟨.func, 1, 8, .nilf, []⟩,
  ⟨.func, 1, 8, .nilf, []⟩,
  ⟨.other, 0, 0, .undef, []⟩,
  ⟨.func, 1, 8, .nilf, []⟩,
  ⟨.func, 1, 8, .nilf, []⟩,
  ⟨.func, 1, 8, .nilf, []⟩,
  ⟨.int .i64, 1, 8, (.int .i64 0), []⟩,
  ⟨.other, 0, 0, .undef, []⟩,
  ⟨.func, 1, 8, .nilf, []⟩]
def pvG : Globs := fun _ => none
def pvRef : FuncId → Nat → Bool := fun f i => cond (Nat.beq f 30 && Nat.beq i 0) true (false)
theorem pvT_fits : tabFits Try.prog pvT 0 pvT = true := by kernel_rfl
theorem pvT_sized : tabSized pvT = true := by kernel_rfl
theorem pvT_eqs : eqsOkT Try.prog pvT 0 pvT = true := by kernel_rfl
theorem pvT_eq : EqSound Try.prog pvT := EqSound.check pvT_fits pvT_sized pvT_eqs
theorem pvMixed : Try.prog.follows .mixedOrders = true := by kernel_rfl
/-- A list, cut into parts of n. -/
def chunksF : Nat → Nat → List PV → List (List PV)
  | 0, _, _ => []
  | _ + 1, _, [] => []
  | f + 1, n, x :: xs => (x :: xs).take n :: chunksF f n ((x :: xs).drop n)
def chunks (n : Nat) (xs : List PV) : List (List PV) := chunksF xs.length n xs
def I77 (cb : List PV) (cn : Int) (K : List (List PV) → Prop) : Prop := 1 ≤ cn ∧ cn ≤ 65536 ∧ cb.length ≤ maxRoom ∧ K ((chunks cn.toNat cb).map fun el => [.list 5 el])
def J77 : ItSem := fun bs t K =>
  consK t fun r1 r2 => ptrK 0 61 0 [] r1 <| consK r2 fun r3 r4 => ptrK 1 3 0 [] r3 <| nilK r4 <| bConsK bs fun r5 r6 => bBoxK true 61 r5 fun r7 => asListK 5 r7 fun cb => bConsK r6 fun r8 r9 => bBoxK true 3 r8 fun r10 => asIntK .i64 r10 fun cn => bNilK r9 <| I77 cb cn K
theorem J77_inv {bs : List Blk} {t : List PV} {K : List (List PV) → Prop} (h0 : J77 bs t K) : ∃ (cb : List PV) (cn : Int), t = [(.ptr 0 61 0 []), (.ptr 1 3 0 [])] ∧ bs = [(.box true 61 (.list 5 cb)), (.box true 3 (.int .i64 cn))] ∧ I77 cb cn K := by
  unfold J77 at h0
  obtain ⟨r1, r2, rfl, h1⟩ := consK_inv h0
  obtain ⟨rfl, h2⟩ := ptrK_inv h1
  obtain ⟨r3, r4, rfl, h3⟩ := consK_inv h2
  obtain ⟨rfl, h4⟩ := ptrK_inv h3
  obtain ⟨rfl, h5⟩ := nilK_inv h4
  obtain ⟨r5, r6, rfl, h6⟩ := bConsK_inv h5
  obtain ⟨r7, rfl, h7⟩ := bBoxK_inv h6
  obtain ⟨cb, rfl, h8⟩ := asListK_inv h7
  obtain ⟨r8, r9, rfl, h9⟩ := bConsK_inv h8
  obtain ⟨r10, rfl, h10⟩ := bBoxK_inv h9
  obtain ⟨cn, rfl, h11⟩ := asIntK_inv h10
  obtain ⟨rfl, h12⟩ := bNilK_inv h11
  have h := h12
  exact ⟨cb, cn, rfl, rfl, h⟩

end Pv
