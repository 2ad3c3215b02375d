/- A part of the proof. No conditions of its own beyond those that its theorems name. -/
import Derived.Test.YthdpkcolbgoecaaStt
import Derived.Shelf.AbstractIn
import Derived.Shelf.RegionOpen
import Derived.RangeFuncSeq
import Derived.LoopIn
import Derived.Deep.Draws

namespace Pv
open Go Go.Proofs Go.RowKit

def chunkV (a : Option Addr) (len cn i : Nat) : Value := .slice (a.map (·.add (i * cn * 1))) (min cn (len - i * cn)) (min cn (len - i * cn))

theorem sz5 (w : World) : (Go.sizeOf 5).run Try.prog w = Result.ok 1 w := by
  obtain ⟨i, d, z, hi⟩ := tiOk_of pvT_fits 5 (by decide)
  have := hi.run_sizeOf (w := w)
  exact this
theorem un61 : Try.prog.underlying 61 = some (.slice 5) := by kernel_rfl

theorem slice_from (a : Option Addr) (len cap p : Nat) (hp : p ≤ len) (hl : len ≤ cap) (w : World) : (Instr.sliceAt 61 (.slice a len cap) (some (.int .i64 p)) none none).run Try.prog w = .ok (.slice (if cap = p then a else a.map (·.add (p * 1))) (len - p) (cap - p)) w := by
  rw [run_sliceAt_other un61 (by simp)]
  have hb := bounds_run (P := Try.prog) (w := w) (isS := true) (len := len) (cap := cap) (lo := some (.int .i64 p)) (hi := none) (l := p) (h := len) (.inr ⟨_, rfl⟩) (.inl ⟨rfl, rfl⟩) (by omega) (by omega) (by omega)
  simp [Instr.slice, run_underlying un61, hb, sz5]
theorem slice_full (a : Option Addr) (len cap p q : Nat) (hp : p < q) (hq : q ≤ cap) (w : World) : (Instr.sliceAt 61 (.slice a len cap) (some (.int .i64 p)) (some (.int .i64 q)) (some (.int .i64 q))).run Try.prog w = .ok (.slice (a.map (·.add (p * 1))) (q - p) (q - p)) w := by
  rw [run_sliceAt_other un61 (by simp)]
  have hb := bounds_run3 (P := Try.prog) (w := w) (len := len) (cap := cap) (lo := some (.int .i64 p)) (k1 := .i64) (k2 := .i64) (l := p) (h := q) (j := q) (.inr ⟨_, rfl⟩) (by omega) (by omega) (by omega) (by omega)
  simp [Instr.slice, run_underlying un61, hb, sz5]
  omega

set_option maxRecDepth 100000 in
set_option maxHeartbeats 4000000 in
theorem chunk_run (F : Fence) (h77 : F.fn 77) (hro : F.round = none) (n l : Nat) (h1n : F.depth.isSome = true → 1 ≤ n) (J Jx : Nat → World → Prop) (b0 b1 : Nat) (a : Option Addr) (len cap cn k : Nat) (W : World) (hcn : 1 ≤ cn) (hcn2 : cn ≤ 65536) (hlen : len ≤ cap) (hmax : len ≤ 70368744177664) (hk : ∀ i, i < k ↔ i * cn < len)
    (hc : ∀ i A, J i A → A.cell? ⟨b0, 0, none⟩ = some (.slice a len cap) ∧ A.cell? ⟨b1, 0, none⟩ = some (.int .i64 cn))
    (hd : ∀ i (A : World) q, J i A → J i (A.drewN q))
    (hY : ∀ i A, i < k → J i A → YieldAt F (n - 1) Try.prog l #[chunkV a len cn i] A fun e B => (e = .returned (.bool true) ∧ J (i + 1) B) ∨ (e = .returned (.bool false) ∧ Jx (i + 1) B)) (hJ : J 0 W) :
    CallsIn F n Try.prog 77 #[.func (.yield l) #[] #[], .pointer (some ⟨b0, 0, none⟩), .pointer (some ⟨b1, 0, none⟩)] W fun e B => (∃ v, e = .returned v) ∧ (J k B ∨ ∃ i, i ≤ k ∧ Jx i B) := by
  have mixed : Try.prog.follows .mixedOrders = true := pvMixed
  have hnot : ∀ w b, (Op.unary .not (.bool b)).run Try.prog w = .ok (.bool (!b)) w := fun w b => by simp [Op.unary]
  refine callsIn_of_wp Try.func77 rfl h77 ?_ hro
  simp only [Try.ntmps77, List.size_toArray, List.length_cons, List.length_nil, Nat.reduceAdd, Nat.reduceSub, Array.replicate_succ, Array.replicate_zero, List.push_toArray, List.append_toArray, List.nil_append, List.cons_append]
  gi_wp2
  gi_loopw [4] (fun vi wr => ∃ i p : Nat, Hid (p = i * cn) ∧ vi = .int .i64 p ∧ i ≤ k ∧ J i wr) (fun vi wr => len - (intOf vi).toNat)
  case atStart => exact ⟨0, 0, by simp [Hid], by simp, Nat.zero_le _, hJ⟩
  case round =>
    obtain ⟨i, p, hp, hi, hik, hJi⟩ := hrel
    obtain ⟨hc0, hc1⟩ := hc i _ hJi
    subst hi
    by_cases hlt : (p : Int) < len
    · have hpl : p < len := by omega
      have hik2 : i < k := (hk i).2 (by rw [← hp.out]; exact hpl)
      have hs1 := slice_from a len cap p (by omega) hlen
      gi_wp2_with fail
      refine wpIn_region_quiet_lit hro mixed (by kernel_rfl) ?_
      repeat (gi_big_quiet_step (fail))
      refine wpQuietIn_nil ?_
      intro wq hw'
      obtain ⟨nq, hw2⟩ := hw'
      subst hw2
      obtain ⟨m, hm⟩ : ∃ m, m = min cn (len - p) := ⟨_, rfl⟩
      have hm1 : (if len - p < cn then ((len - p : Nat) : Int) else (cn : Int)) = (m : Int) := by subst hm; split <;> omega
      have hm0 : 0 < m := by omega
      have hpm : p + m ≤ len := by omega
      rw [hm1]
      have hs2 := slice_full a len cap p (p + m) (by omega) (by omega)
      simp only [Int.natCast_add, Nat.add_sub_cancel_left, Nat.mul_one] at hs2
      obtain ⟨fn, tmps, assign, body, hy, hR⟩ := hY i (wr.drewN nq) hik2 (hd i wr nq hJi)
      have hv : chunkV a len cn i = .slice (Option.map (fun x => x.add p) a) m m := by
        have hp' : p = i * cn := hp.out
        rw [chunkV, ← hp', ← hm]; simp
      rw [hv] at hy
      have hm' : Hid (m = min cn (len - p)) := hm
      clear hm hm1 hs1 hv
      have hq0 : (wr.drewN nq).cell? ⟨b0, 0, none⟩ = some (.slice a len cap) := hc0
      have hq1 : (wr.drewN nq).cell? ⟨b1, 0, none⟩ = some (.int .i64 cn) := hc1
      have hw : wrap64 ((p : Int) + m) = ((p + m : Nat) : Int) := by simp [wrap64]; omega
      gi_wp2
      refine ⟨h1n, hR.mono ?_⟩
      rintro e W3 (⟨rfl, hJ3⟩ | ⟨rfl, hx3⟩)
      · obtain ⟨hd0, hd1⟩ := hc (i + 1) W3 hJ3
        gi_wp2
        refine ⟨⟨i + 1, p + cn, ?_, by simp, hik2, hJ3⟩, ?_⟩
        · have hp' : p = i * cn := hp.out
          show p + cn = (i + 1) * cn
          rw [Nat.succ_mul, hp']
        · simp only [intOf]; omega
      · gi_wp2
        refine bodyPost_ret (results_none rfl _ _ _) rfl ?_
        exact ⟨⟨_, rfl⟩, .inr ⟨i + 1, hik2, hx3⟩⟩
    · gi_wp2
      go_end0
      have hik3 : i = k := by
        have : ¬ i < k := fun h => by have := (hk i).1 h; rw [← hp.out] at this; omega
        omega
      subst hik3
      exact ⟨⟨_, rfl⟩, .inl hJi⟩
end Pv
