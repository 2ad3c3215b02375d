/- strings.Repeat has its contract. -/
import Derived.Test.YthdpkcolbgoecaaStK
import Derived.Test.YthdpkcolbgoecaaSmi
import Derived.Test.YthdpkcolbgoecaaSmo

namespace Pv
open Go Go.Proofs

theorem repeatL_flat (l : List UInt8) : ∀ c, Lib.repeatL l c = (List.replicate c l).flatten
  | 0 => rfl
  | c + 1 => by rw [Lib.repeatL, repeatL_flat l c, List.replicate_succ, List.flatten_cons]
theorem P19_ok : Sound Try.prog pvT pvG 19 P19 := by
  intro bs args K hK w μ ro vs hlen hrep hL hnone hG
  unfold P19 at hK
  obtain ⟨s, r1, rfl, hK1⟩ := sI hK
  clear hK
  obtain ⟨c, r2, rfl, hK2⟩ := iI hK1
  clear hK1
  obtain ⟨rfl, hK3⟩ := nilK_inv hK2
  clear hK2
  obtain ⟨rfl, hK4⟩ := bNilK_inv hK3
  clear hK3
  obtain ⟨h1, h2, h3, h4, hK⟩ := hK4
  obtain ⟨v, u, rfl⟩ : ∃ v u, vs = #[v, u] := by
    have h2 : vs.size = 2 := by simpa using hlen.symm
    exact ⟨vs[0], vs[1], by
      apply Array.ext
      · simp [h2]
      · intro i hi _
        have : i = 0 ∨ i = 1 := by omega
        rcases this with rfl | rfl <;> simp⟩
  obtain rfl := (hrep 0 _ v rfl rfl).str_inv
  obtain rfl := (hrep 1 _ u rfl rfl).int_inv
  obtain ⟨n, rfl⟩ : ∃ n : Nat, c = n := ⟨c.toNat, by omega⟩
  have hsz : s.size * n ≤ 140737488355328 := by
    have : s.size * n ≤ 65536 * 65536 := Nat.mul_le_mul h4 (by omega)
    omega
  have hcon := Any.strings_Repeat_main Try.lays105 Try.Builder_Extra_105 s n w (by omega) (by omega) hsz h3
  change Calls Try.prog 19 _ _ _ at hcon
  refine hcon.mono ?_
  rintro e w' ⟨rfl, hb⟩
  have er : (⟨(Lib.repeatL s.data.toList n).toArray⟩ : ByteArray) = repT s n := by
    unfold repT
    rw [repeatL_flat, Int.toNat_natCast]
  rw [er]
  by_cases hz : w.heap.size < w'.heap.size
  · exact ⟨_, _, _, μ, _, rfl, hK, .str _, below_hrel hL hb w.heap.size hz, hnone, Nat.le_refl _, below_since hL hb w.heap.size _⟩
  · have he : w'.heap.size = w.heap.size := Nat.le_antisymm (by omega) hb.size
    exact ⟨_, _, _, μ, ro, rfl, hK, .str _, ⟨fun h b hm => by rw [he]; exact hL.lt h b hm, hL.apart, fun b hr => by rw [he]; exact hL.ro_lt b hr, hL.inj, fun h => (hL.blk h).keep ⟨fun _ _ h => h, fun _ h => h, fun b h => hb.block b (hL.ro_lt b h), fun b c t fr h => ⟨c, fr, by rw [hb.block b (Array.getElem?_eq_some_iff.1 h).1]; exact h, rfl⟩⟩ fun b hm => hb.block b (hL.lt h b hm)⟩, hnone, Nat.le_refl _,
      ⟨hb.os, hb.tape, hb.output, hb.size, fun b hlt _ => hb.block b hlt, fun b c t fr h => ⟨c, fr, by rw [hb.block b (Array.getElem?_eq_some_iff.1 h).1]; exact h, rfl⟩, fun _ h => h, fun b h => .inl h, fun h b hl hm => .inl ⟨h, hl, hm⟩, fun _ _ => rfl⟩⟩
theorem W19_ok : Sound Try.prog pvT pvG 19 W19 := P19_ok.weak _
end Pv
