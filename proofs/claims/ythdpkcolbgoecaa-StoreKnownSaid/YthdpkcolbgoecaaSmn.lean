/- A part of the proof. No conditions of its own beyond those that its theorems name. -/
import Derived.Test.YthdpkcolbgoecaaStD
import Derived.Test.YthdpkcolbgoecaaSmh

namespace Pv
open Go Go.Proofs

theorem hp_snoc (bs : List Blk) (k : Blk) : upds (hp bs) [(bs.length, k)] = hp (bs ++ [k]) := by
  funext x
  simp only [upds]
  by_cases e : x = bs.length
  · subst e; rw [upd_same]; simp [hp, List.getD]
  · rw [upd_other e]
    unfold hp
    rcases Nat.lt_or_ge x bs.length with h | h
    · simp [List.getD, List.getElem?_append_left h]
    · have h2 : bs.length + 1 ≤ x := by omega
      simp [List.getD, List.getElem?_eq_none h, List.getElem?_eq_none (show (bs ++ [k]).length ≤ x by simpa using h2)]

theorem P30_ok : Sound Try.prog pvT pvG 30 P30 := by
  intro bs args K hK w μ ro vs hlen hrep hL hnone hG
  unfold P30 at hK
  obtain ⟨r1, r2, rfl, hK⟩ := consK_inv hK
  obtain ⟨rfl, hK⟩ := maprK_inv hK
  obtain ⟨rfl, hK⟩ := nilK_inv hK
  obtain ⟨r3, r4, rfl, hK⟩ := bConsK_inv hK
  obtain ⟨en, rfl, hK⟩ := bMapK_inv hK
  obtain ⟨rfl, hK⟩ := bNilK_inv hK
  unfold B30 at hK
  obtain ⟨v, rfl⟩ : ∃ v, vs = #[v] := ⟨vs[0]'(by simp at hlen; omega), one_ext (by simpa using hlen.symm)⟩
  obtain ⟨b, rfl, hm⟩ := (hrep 0 _ v rfl rfl).mapr_inv
  have hb := hL.blk 0
  rw [hm] at hb
  obtain ⟨hE, b', e, hro, es, clock, hh, hl, hB, hR⟩ := hb
  cases e
  have hcon := AnyW.maps_Clone Try.cloneM b es clock w hh
  change Calls Try.prog 30 _ _ _ at hcon
  refine hcon.mono ?_
  rintro e w' ⟨rfl, rfl⟩
  have hg : Grew w (w.alloc (.map es clock)) (.map es clock) := ⟨rfl, rfl, rfl, rfl⟩
  have hmu : μ 1 = none := hnone 1 (by simp)
  have hkeep := hg.keeps hL hmu
  have hk : BRel pvT (w.alloc (.map es clock)) (muNew μ 1 w.heap.size) ro (some w.heap.size) (.map true 9 77 en) :=
    ⟨hE, w.heap.size, rfl, (fun h => by cases h), es, clock, World.alloc_heap_new w _, hl, hB, fun i k v e hx he => ⟨(hR i k v e hx he).1.keep hkeep, (hR i k v e hx he).2.keep hkeep⟩⟩
  refine ⟨_, _, [.mapr 1], muNew μ 1 w.heap.size, ro, rfl, hK, .mapr 1 w.heap.size (by simp [muNew]), ?_, fun h hh => ?_, by simp, ?_⟩
  · have h1 := hg.hrel hL hmu hk
    have h2 := hp_snoc [Blk.map false 9 77 en] (.map true 9 77 en)
    rw [show hp [Blk.map false 9 77 en, .map true 9 77 en] = upd (hp [Blk.map false 9 77 en]) 1 (.map true 9 77 en) from h2.symm]
    exact h1
  · simp only [List.length_cons, List.length_nil] at hh
    unfold muNew
    rw [if_neg (by omega)]
    exact hnone h (by simp; omega)
  · refine (Since.refl w μ ro (hp [Blk.map false 9 77 en]) 1).step hkeep hg.chg (fun h b hl' hm' => ?_) (fun b hb => .inl hb) (fun h hh => ?_)
    · refine own_new (L := hp [Blk.map false 9 77 en]) 1 (.map true 9 77 en) h b ?_ hm'
      rw [show upds (hp [Blk.map false 9 77 en]) [(1, Blk.map true 9 77 en)] = hp [Blk.map false 9 77 en, .map true 9 77 en] from hp_snoc _ _]
      exact hl'
    · unfold muNew; rw [if_neg (by omega)]

theorem W30_ok : Sound Try.prog pvT pvG 30 W30 := P30_ok.weak _

end Pv
