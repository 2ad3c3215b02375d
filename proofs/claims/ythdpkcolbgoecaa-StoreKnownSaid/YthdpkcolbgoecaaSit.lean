/- A part of the proof. No conditions of its own beyond those that its theorems name. -/
import Derived.Test.YthdpkcolbgoecaaChk
import Derived.RangeFuncBound

namespace Pv
open Go Go.Proofs

theorem chunksF_get : ∀ (f n : Nat) (xs : List PV) (i : Nat), 0 < n → xs.length ≤ f → (chunksF f n xs)[i]? = if i * n < xs.length then some ((xs.drop (i * n)).take n) else none
  | 0, n, [], i, _, _ => by simp [chunksF]
  | 0, n, _ :: _, i, _, h => by simp at h
  | f + 1, n, [], i, _, _ => by simp [chunksF]
  | f + 1, n, x :: xs, 0, hn, _ => by simp [chunksF]
  | f + 1, n, x :: xs, i + 1, hn, h => by
    have ih := chunksF_get f n ((x :: xs).drop n) i hn (by simp at h ⊢; omega)
    rw [chunksF, List.getElem?_cons_succ, ih, List.drop_drop, List.length_drop]
    have e : n + i * n = (i + 1) * n := by rw [Nat.succ_mul]; omega
    rw [e]
    by_cases hlt : (i + 1) * n < (x :: xs).length
    · rw [if_pos hlt, if_pos (by omega)]
    · rw [if_neg hlt, if_neg (by omega)]

theorem chunks_get {n : Nat} (hn : 0 < n) (xs : List PV) (i : Nat) : (chunks n xs)[i]? = if i * n < xs.length then some ((xs.drop (i * n)).take n) else none :=
  chunksF_get _ n xs i hn (Nat.le_refl _)

theorem chunks_lt {n : Nat} (hn : 0 < n) (xs : List PV) (i : Nat) : i < (chunks n xs).length ↔ i * n < xs.length := by
  have h := chunks_get hn xs i
  constructor
  · intro hi
    rw [List.getElem?_eq_getElem hi] at h
    by_cases hlt : i * n < xs.length
    · exact hlt
    · rw [if_neg hlt] at h; cases h
  · intro hlt
    rw [if_pos hlt] at h
    exact (List.getElem?_eq_some_iff.1 h).1

theorem J77_ok : ItSound Try.prog pvT pvG 77 J77 := by
  intro bs caps K hJ w μ ro vs hlen hrep hL hG
  obtain ⟨cb, cn, rfl, rfl, h1, h2, h3, hK⟩ := J77_inv hJ
  simp only [List.length_cons, List.length_nil] at hlen
  obtain ⟨v0, v1, rfl⟩ : ∃ v0 v1, vs = #[v0, v1] := by
    refine ⟨vs[0], vs[1], Array.ext (by simp [← hlen]) (fun j h1 h2 => ?_)⟩
    have : j = 0 ∨ j = 1 := by omega
    rcases this with rfl | rfl <;> rfl
  obtain ⟨b0, hm0, rfl⟩ := (hrep 0 _ v0 rfl rfl).ptr_inv
  obtain ⟨b1, hm1, rfl⟩ := (hrep 1 _ v1 rfl rfl).ptr_inv
  have hb0 := hL.blk 0
  have hb1 := hL.blk 1
  rw [hm0] at hb0
  rw [hm1] at hb1
  obtain ⟨-, -, -, b0', e0, -, c0, t0, lo0, hi0, hc0, -, hl0, hr0⟩ := hb0
  obtain ⟨-, -, -, b1', e1, -, c1, t1, lo1, hi1, hc1, -, hl1, hr1⟩ := hb1
  cases e0; cases e1
  obtain ⟨u0, hu0, hq0⟩ := hr0 0 _ rfl
  obtain ⟨u1, hu1, hq1⟩ := hr1 0 _ rfl
  obtain ⟨a, cap, rfl, hcap, hrow, hne⟩ := hq0.list_inv
  obtain rfl := hq1.int_inv
  obtain ⟨N, hN⟩ : ∃ N : Nat, cn = N := ⟨cn.toNat, by omega⟩
  subst hN
  simp only [Int.toNat_natCast] at hK
  have hN0 : 0 < N := by omega
  have hmr : maxRoom = 70368744177664 := rfl
  refine ⟨_, (List.range (chunks N cb).length).map fun i => #[chunkV a cb.length N i], hK, by simp, fun i x v hx hv => ?_, ?_⟩
  · rw [List.getElem?_map, chunks_get hN0] at hx
    rw [List.getElem?_map] at hv
    by_cases hlt : i * N < cb.length
    · rw [if_pos hlt] at hx
      simp only [Option.map_some, Option.some.injEq] at hx
      rw [List.getElem?_range ((chunks_lt hN0 cb i).2 hlt)] at hv
      simp only [Option.map_some, Option.some.injEq] at hv
      subst hx; subst hv
      refine ⟨rfl, fun y hy => ?_, fun j y u hy hu => ?_⟩
      · simp only [List.mem_singleton] at hy
        subst hy
        intro c hc
        simp only [flat, List.mem_singleton] at hc
        subst hc; trivial
      · have hj : j = 0 := by
          cases j with
          | zero => rfl
          | succ j => simp at hy
        subst hj
        simp at hy hu
        subst hy; subst hu
        have hm : i * N < i * N + min N (cb.length - i * N) := by omega
        have hq : i * N + min N (cb.length - i * N) ≤ cb.length := by omega
        have hev : evSlice pvT 61 (.list 5 cb) (some (.int .i64 ((i * N : Nat) : Int))) (some (.int .i64 ((i * N + min N (cb.length - i * N) : Nat) : Int))) (some (.int .i64 ((i * N + min N (cb.length - i * N) : Nat) : Int))) (fun z => z = .list 5 (cutL cb (i * N) (i * N + min N (cb.length - i * N)))) := by
          show (0 : Int) ≤ _ ∧ _
          refine ⟨by omega, by omega, Int.le_refl _, by omega, ?_⟩
          simp only [Int.toNat_natCast]
        obtain ⟨r, hr, pv, hpv, hrp⟩ := evSlice_sound (P := Try.prog) pvT_fits pvT_sized hev hq0 (lo' := some (.int .i64 ((i * N : Nat) : Int))) (hi' := some (.int .i64 ((i * N + min N (cb.length - i * N) : Nat) : Int))) (mx' := some (.int .i64 ((i * N + min N (cb.length - i * N) : Nat) : Int))) (.int _ _) (.int _ _) (.int _ _)
        have hr2 := hr w
        rw [slice_full a cb.length cap (i * N) _ hm (by omega)] at hr2
        cases hr2
        subst hpv
        rw [cutL_rowPart] at hrp
        have e1 : i * N + min N (cb.length - i * N) - i * N = min N (cb.length - i * N) := by omega
        rw [e1] at hrp
        have e2 : rowPart cb (i * N) (min N (cb.length - i * N)) = (cb.drop (i * N)).take N := by
          unfold rowPart
          cases e3 : Nat.beq (i * N) 0 with
          | true =>
            have : i * N = 0 := Nat.eq_of_beq_eq_true e3
            simp only [cond_true, this, List.drop_zero]
            rw [List.take_eq_take_iff]; omega
          | false =>
            simp only [cond_false]
            rw [List.take_eq_take_iff, List.length_drop]; omega
        rw [e2] at hrp
        exact hrp
    · rw [if_neg hlt] at hx; cases hx
  · intro n l J Jx W hsame hsz hJs hJxs hround hJ0
    have hp0 : ∃ h, (hp [Blk.box true 61 (.list 5 cb), .box true 3 (.int .i64 N)] h).live = true ∧ μ h = some b0 := ⟨0, rfl, hm0⟩
    have hp1 : ∃ h, (hp [Blk.box true 61 (.list 5 cb), .box true 3 (.int .i64 N)] h).live = true ∧ μ h = some b1 := ⟨1, rfl, hm1⟩
    have hcell : ∀ (A : World) b, A.heap[b]? = w.heap[b]? → A.cell? ⟨b, 0, none⟩ = w.cell? ⟨b, 0, none⟩ := fun A b h => cell_of_block h 0
    have hw0 : w.cell? ⟨b0, 0, none⟩ = some (.slice a cb.length cap) := by simp [World.cell?, hc0]; exact hu0
    have hw1 : w.cell? ⟨b1, 0, none⟩ = some (.int .i64 N) := by simp [World.cell?, hc1]; exact hu1
    have hpc : ∀ (A : World) q (priv : Nat → Prop), PrivChg priv A (A.drewN q) := fun A q priv => ⟨rfl, rfl, rfl, Nat.le_refl _, fun _ _ _ => rfl, fun _ c _ fr h => ⟨c, fr, h, rfl⟩⟩
    refine (chunk_run (Fw none) trivial rfl n l (fun h => by simp [Fw, Fence.wide] at h)
      (fun i A => J i A ∧ ∀ b, ro b ∨ (∃ h, (hp [Blk.box true 61 (.list 5 cb), .box true 3 (.int .i64 N)] h).live = true ∧ μ h = some b) → A.heap[b]? = w.heap[b]?) Jx b0 b1 a cb.length cap N (chunks N cb).length W hN0 (by omega) hcap (by omega) (chunks_lt hN0 cb)
      (fun i A hA => ⟨(hcell A b0 (hA.2 b0 (.inr hp0))).trans hw0, (hcell A b1 (hA.2 b1 (.inr hp1))).trans hw1⟩) (fun i A q hA => ⟨hJs i A _ hA.1 (hpc A q _), hA.2⟩) (fun i A hi hA => ?_) ⟨hJ0, hsame⟩).mono ?_
    · refine YieldAt.mono (hround i #[chunkV a cb.length N i] A (by rw [List.getElem?_map, List.getElem?_range hi]; rfl) hA.1 (fun b hb => hA.2 b (.inl hb))) ?_
      rintro e B (⟨he, hJB, hk, -⟩ | ⟨he, hx⟩)
      · exact .inl ⟨he, hJB, fun b hb => (hk b hb).trans (hA.2 b hb)⟩
      · exact .inr ⟨he, hx⟩
    · rintro e B ⟨hv, hB | ⟨i, hi, hB⟩⟩
      · exact ⟨hv, .inl (by simpa using hB.1)⟩
      · exact ⟨hv, .inr ⟨i, by simpa using hi, hB⟩⟩
def pvIt : List (FuncId × ItSem) := [(77, J77)]
theorem pvIt_ok : AllIt Try.prog pvT pvG pvIt := ⟨⟨J77_ok, fun a w => Try.call77 a w⟩, trivial⟩
end Pv
