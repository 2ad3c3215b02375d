/- A part of the proof. No conditions of its own beyond those that its theorems name. -/
import Derived.Test.YthdpkcolbgoecaaStD
import Derived.Test.YthdpkcolbgoecaaSmh

namespace Go.Proofs
open Go.RowKit Go.Maps Go.Sort Go.Shelf
theorem Try.sortsA (m : Nat) : AnyZ.SortsIn Try.prog Try.sortedA_ren Fence.wide m :=
  ⟨fun blk off cap ss W hH hblk hsz => callsIn_wide.2 (AnyM.slices_Sort_string Try.sortA blk off cap ss W hH hblk hsz),
   fun p cap W => callsIn_wide.2 (AnyM.slices_Sort_string_none Try.sortA p cap W)⟩
/-- Sorted keys of a map, at this program. -/
theorem Try.sorted_keys {H : Type} (Bm b nn : Nat) (D0 : DataW H) (R : Value → Option (DataW H × List MemPlace)) (w : World) (hBm : Bm < w.heap.size) (hm : w.cell? ⟨Bm, 0, none⟩ = some (.map (some b))) (hown : w.ownsMap Try.prog 9 R b nn D0) (hmax : Maps.size D0 ≤ maxLen) (hbytes : Maps.size D0 * 16 ≤ 140737488355328) :
    Calls Try.prog 36 #[.func (.func 59) #[] #[.pointer (some ⟨Bm, 0, none⟩)]] w fun e w' => ∃ (v : Value) (ss : List (List UInt8)), e = .returned v ∧ ss.Perm (strKeys D0) ∧
      w'.ownsRow w.heap.size 9 1 v ss.length ((ss.mergeSort (fun x y => decide (x ≤ y))).map encStr) ∧ (v = .slice none 0 0 ↔ ss = []) ∧ Below w.heap.size w w' := by
  refine (callsIn_wide (n := 6)).1 ?_
  have hseq : SeqGives Fence.wide 3 Try.prog 59 #[.pointer (some ⟨Bm, 0, none⟩)] encStr (fun ss => ss.Perm (strKeys D0)) (Maps.size D0) w :=
    AnyZ.keys_gives (ρ := Try.keysA_ren) { Try.keysA with } Fence.wide _ trivial rfl (by omega) Bm b nn D0 _ hBm hm hown
  have cS := AnyZ.sorted_in Try.sortedA Fence.wide 6 trivial trivial trivial trivial rfl (by omega) (Try.sortsA _) (enters_of Try.func58 (by kernel_rfl) rfl) 59 #[.pointer (some ⟨Bm, 0, none⟩)] trivial (enters_of Try.func59 (by kernel_rfl) rfl) _ _ hmax hbytes _ hseq
  exact cS
theorem Try.sorted_nil (Bm : Nat) (w : World) (hBm : Bm < w.heap.size) (hm : w.cell? ⟨Bm, 0, none⟩ = some (.map none)) :
    Calls Try.prog 36 #[.func (.func 59) #[] #[.pointer (some ⟨Bm, 0, none⟩)]] w fun e w' => e = .returned (.slice none 0 0) ∧ Below w.heap.size w w' := by
  refine (callsIn_wide (n := 6)).1 ?_
  have hseq : SeqGives Fence.wide 3 Try.prog 59 #[.pointer (some ⟨Bm, 0, none⟩)] encStr (fun ss : List (List UInt8) => ss = []) 0 w :=
    AnyZ.keys_gives_nil (ρ := Try.keysA_ren) { Try.keysA with } Fence.wide _ trivial rfl Bm _ hBm hm
  have cS := AnyZ.sorted_in Try.sortedA Fence.wide 6 trivial trivial trivial trivial rfl (by omega) (Try.sortsA _) (enters_of Try.func58 (by kernel_rfl) rfl) 59 #[.pointer (some ⟨Bm, 0, none⟩)] trivial (enters_of Try.func59 (by kernel_rfl) rfl) _ 0 (Nat.zero_le _) (by omega) _ hseq
  refine CallsIn.mono cS ?_
  rintro e w' ⟨v, ss, rfl, rfl, hrow, hnil, hb⟩
  obtain rfl : v = .slice none 0 0 := hnil.2 rfl
  exact ⟨rfl, hb⟩
end Go.Proofs

namespace Pv
open Go Go.Proofs Go.Maps

theorem list_ext_some {α : Type} {a b : List α} (h : ∀ (i : Nat) (x : α), a[i]? = some x → b[i]? = some x) (hl : a.length = b.length) : a = b := by
  apply List.ext_getElem?
  intro i
  cases e : a[i]? with
  | some x => rw [h i x e]
  | none =>
    rw [List.getElem?_eq_none_iff] at e
    rw [List.getElem?_eq_none (by omega)]

/-- What stands below a place of memory is as it was: the same heap, with one block more that is not written. -/
theorem below_keeps {w w' : World} {μ : Nat → Option Nat} {ro : Nat → Prop} {L : Heap} (hL : HRel pvT w μ ro L) (hb : RowKit.Below w.heap.size w w') (g : Nat) : Keeps μ μ ro (fun b => ro b ∨ w.heap.size ≤ b ∧ b = g) w w' :=
  ⟨fun _ _ h => h, fun _ h => .inl h, fun b h => hb.block b (hL.ro_lt b h), fun b c t fr h => ⟨c, fr, by rw [hb.block b (Array.getElem?_eq_some_iff.1 h).1]; exact h, rfl⟩⟩
theorem below_hrel {w w' : World} {μ : Nat → Option Nat} {ro : Nat → Prop} {L : Heap} (hL : HRel pvT w μ ro L) (hb : RowKit.Below w.heap.size w w') (g : Nat) (hg : g < w'.heap.size) : HRel pvT w' μ (fun b => ro b ∨ w.heap.size ≤ b ∧ b = g) L :=
  ⟨fun h b hm => Nat.lt_of_lt_of_le (hL.lt h b hm) hb.size, fun h b hl hm hr => by
    rcases hr with hr | hr
    · exact hL.apart h b hl hm hr
    · have := hL.lt h b hm; omega,
   fun b hr => by
    rcases hr with hr | hr
    · exact Nat.lt_of_lt_of_le (hL.ro_lt b hr) hb.size
    · rw [hr.2]; exact hg,
   hL.inj, fun h => (hL.blk h).keep (below_keeps hL hb g) fun b hm => hb.block b (hL.lt h b hm)⟩
theorem below_since {w w' : World} {μ : Nat → Option Nat} {ro : Nat → Prop} {L : Heap} (hL : HRel pvT w μ ro L) (hb : RowKit.Below w.heap.size w w') (g p : Nat) : Since w μ ro L p w' μ (fun b => ro b ∨ w.heap.size ≤ b ∧ b = g) L :=
  ⟨hb.os, hb.tape, hb.output, hb.size, fun b hlt _ => hb.block b hlt, fun b c t fr h => ⟨c, fr, by rw [hb.block b (Array.getElem?_eq_some_iff.1 h).1]; exact h, rfl⟩, fun _ h => .inl h, fun b h => by
    rcases h with h | h
    · exact .inl h
    · exact .inr (.inl h.1), fun h b hl hm => .inl ⟨h, hl, hm⟩, fun _ _ => rfl⟩

theorem P36_ok : Sound Try.prog pvT pvG 36 P36 := by
  intro bs args K hK w μ ro vs hlen hrep hL hnone hG
  unfold P36 at hK
  obtain ⟨r1, r2, rfl, hK1⟩ := consK_inv hK
  clear hK
  obtain ⟨cs, rfl, hK2⟩ := fnK_inv hK1
  clear hK1
  obtain ⟨r4, r5, rfl, hK3⟩ := consK_inv hK2
  clear hK2
  obtain ⟨rfl, hK4⟩ := ptrK_inv hK3
  clear hK3
  obtain ⟨rfl, hK5⟩ := nilK_inv hK4
  clear hK4
  obtain ⟨rfl, hK6⟩ := nilK_inv hK5
  clear hK5
  obtain ⟨r6, r7, rfl, hK7⟩ := bConsK_inv hK6
  clear hK6
  obtain ⟨x, rfl, hK8⟩ := bBoxK_inv hK7
  clear hK7
  obtain ⟨en, rfl, hK9⟩ := dmapK_inv hK8
  clear hK8
  obtain ⟨rfl, hK10⟩ := bNilK_inv hK9
  clear hK9
  obtain ⟨hroom, hkl, hnd, hK⟩ := hK10
  obtain ⟨v, rfl⟩ : ∃ v, vs = #[v] := ⟨vs[0]'(by simp at hlen; omega), one_ext (by simpa using hlen.symm)⟩
  obtain ⟨caps, rfl, hcl, hcr⟩ := (hrep 0 _ v rfl rfl).fn_inv
  obtain ⟨cv, rfl⟩ : ∃ cv, caps = #[cv] := ⟨caps[0]'(by simp at hcl; omega), one_ext (by simpa using hcl.symm)⟩
  obtain ⟨b, hm, rfl⟩ := (hcr 0 _ cv rfl rfl).ptr_inv
  have hblk := hL.blk 0
  rw [hm] at hblk
  obtain ⟨-, -, -, b', e, -, c, t, lo, hi, hh, -, hsz, hcell⟩ := hblk
  cases e
  obtain ⟨mv, hmv, hrm⟩ := hcell 0 _ rfl
  have hcellm : w.cell? ⟨b, 0, none⟩ = some mv := by unfold World.cell?; rw [hh]; simpa using hmv
  have hbs := hL.lt 0 b hm
  have hptr : (⟨b, 0 * (pvT.at 51).size + offAt pvT 51 [], none⟩ : Addr) = ⟨b, 0, none⟩ := by simp [offAt]
  rw [hptr]
  have hgone : ∀ h, [Blk.box true 51 (.dmap 9 77 en)].length ≤ h → μ h = none := hnone
  rcases hrm.dmap_inv with ⟨rfl, rfl⟩ | ⟨bm, es, clock, rfl, hrob, hes, hle, hE, hB, hkv⟩
  · refine (Try.sorted_nil b w hbs hcellm).mono ?_
    rintro e w' ⟨rfl, hb⟩
    have e0 : sortedKeys [] = [] := by simp [sortedKeys]
    rw [e0] at hK
    by_cases hz : w.heap.size < w'.heap.size
    · exact ⟨_, _, _, μ, _, rfl, hK, .listE 9 none 0, below_hrel hL hb w.heap.size hz, hgone, Nat.le_refl _, below_since hL hb w.heap.size _⟩
    · exact ⟨_, _, _, μ, _, rfl, hK, .listE 9 none 0, below_hrel hL hb 0 (by have := hb.size; omega), hgone, Nat.le_refl _, below_since hL hb 0 _⟩
  · have hks : ∀ (i : Nat) (e : MapEntry), es[i]? = some e → ∃ s : ByteArray, e.key = .string s ∧ (en.map keyB)[i]? = some s.data.toList := by
      intro i e h2
      have hi : i < en.length := by rw [hle]; exact (Array.getElem?_eq_some_iff.1 h2).1
      have h1 : en[i]? = some en[i] := List.getElem?_eq_getElem hi
      obtain ⟨k', v', e1, hk, -⟩ := hE _ (List.getElem_mem hi)
      have hr := (hkv i k' v' e (by rw [h1, e1]) h2).1
      have : ∃ s : ByteArray, k' = .str s := by
        revert hk
        have hkd : (pvT.at 9).kd = .str := rfl
        unfold isKey
        rw [hkd]
        cases k' with
        | str s => exact fun _ => ⟨s, rfl⟩
        | _ => intro hk; cases hk
      obtain ⟨s, rfl⟩ := this
      refine ⟨s, hr.str_inv, ?_⟩
      rw [List.getElem?_map, h1, Option.map_some, e1]
      show some s.toList = _
      rw [ByteArray.toList_eq]
    have hkeys : es.toList.map (·.key) = (en.map keyB).map encStr := by
      refine list_ext_some (fun i x h => ?_) (by simp [hle])
      rw [List.getElem?_map, Array.getElem?_toList] at h
      cases he : es[i]? with
      | none => rw [he] at h; cases h
      | some e =>
        rw [he] at h
        obtain ⟨s, h1, h2⟩ := hks i e he
        rw [List.getElem?_map, h2, Option.map_some]
        rw [Option.map_some, h1] at h
        rw [← h]
    have hnk : (es.toList.map (·.key)).Nodup := by
      rw [hkeys]
      generalize en.map keyB = l at hnd
      induction l with
      | nil => simp
      | cons a r ih =>
        rw [List.nodup_cons] at hnd
        rw [List.map_cons, List.nodup_cons]
        refine ⟨fun hin => ?_, ih hnd.2⟩
        obtain ⟨c, hc, e⟩ := List.mem_map.1 hin
        exact hnd.1 (encStr_inj e ▸ hc)
    have hmr : maxRoom = 70368744177664 := rfl
    have hml : maxLen = 9223372036854775807 := rfl
    have hund : Try.prog.underlying 9 = some .string := by kernel_rfl
    have hrd : ∀ e ∈ es.toList, ∃ s : ByteArray, e.key = .string s ∧ WideElems.rd (H := Unit) Try.prog 9 (fun _ => some (.nil, [])) e = some (.string s.data.toList, .nil) := by
      intro e he
      obtain ⟨i, hi, rfl⟩ := List.mem_iff_getElem.1 he
      have h2 : es[i]? = some es.toList[i] := by rw [← Array.getElem?_toList, List.getElem?_eq_getElem hi]
      obtain ⟨s, h1, h3⟩ := hks i _ h2
      refine ⟨s, h1, ?_⟩
      have hsz : s.size ≤ maxLen := by
        obtain ⟨y, hy, hye⟩ := List.mem_map.1 (List.mem_of_getElem? h3)
        have := hkl y hy
        rw [hye] at this
        have e2 : s.data.toList.length = s.size := Array.length_toList
        omega
      unfold WideElems.rd
      rw [h1, WideMaps.keyOf_string_mk hund hsz]
      rfl
    have hfit : WideElems.Fit (H := Unit) Try.prog 9 (fun _ => some (.nil, [])) es clock :=
      ⟨by omega, ⟨hB.1, hB.2, hnk⟩, fun e he => by obtain ⟨s, -, h⟩ := hrd e he; exact ⟨_, h⟩⟩
    have hsk : (es.toList.map (WideElems.rg (H := Unit) Try.prog 9 (fun _ => some (.nil, [])))).map (fun p => strOf p.1) = en.map keyB := by
      refine list_ext_some (fun i x h => ?_) (by simp [hle])
      rw [List.getElem?_map, List.getElem?_map, Array.getElem?_toList] at h
      cases he : es[i]? with
      | none => rw [he] at h; cases h
      | some e =>
        rw [he] at h
        obtain ⟨s, h1, h2⟩ := hks i e he
        have hmem : e ∈ es.toList := by simpa using Array.mem_of_getElem? he
        obtain ⟨s', h3, h4⟩ := hrd e hmem
        rw [h3] at h1
        cases h1
        rw [h2]
        unfold WideElems.rg at h
        rw [Option.map_some, Option.map_some, h4] at h
        exact h
    have hown : w.ownsMap Try.prog 9 (H := Unit) (fun _ => some (.nil, [])) bm es.size (.map ((es.toList.map (WideElems.rg Try.prog 9 (fun _ => some (.nil, [])))).foldr DataW.insert [])) :=
      ⟨es, clock, hes, hfit, Nat.le_refl _, rfl⟩
    have hperm := WideShapes.sorted_perm (es.toList.map (WideElems.rg (H := Unit) Try.prog 9 (fun _ => some (.nil, []))))
    have hsize : Maps.size (DataW.map ((es.toList.map (WideElems.rg (H := Unit) Try.prog 9 (fun _ => some (.nil, [])))).foldr DataW.insert [])) = es.size := by
      rw [Maps.size_eq, hperm.length_eq]; simp
    refine (Try.sorted_keys b bm es.size _ _ w hbs hcellm hown (by rw [hsize]; omega) (by rw [hsize]; omega)).mono ?_
    rintro e w' ⟨v, ss, rfl, hss, ⟨hrl, hrow⟩, hnil, hb⟩
    have hpk : ss.Perm (en.map keyB) := by
      refine hss.trans ?_
      show ((_ : List (Lit × DataW Unit)).map fun p => strOf p.1).Perm _
      rw [← hsk]
      exact hperm.map _
    have hms : ss.mergeSort (fun x y => decide (x ≤ y)) = (en.map keyB).mergeSort (fun x y => decide (x ≤ y)) := by
      have srt : ∀ l : List (List UInt8), (l.mergeSort (fun x y => decide (x ≤ y))).Pairwise (fun x y => x ≤ y) := by
        intro l
        have := List.pairwise_mergeSort (le := fun x y : List UInt8 => decide (x ≤ y)) (fun a b c h1 h2 => by
          simp only [decide_eq_true_eq] at h1 h2 ⊢
          exact List.le_trans h1 h2) (fun a b => by
          simp only [Bool.or_eq_true, decide_eq_true_eq]
          exact List.le_total a b) l
        exact this.imp (fun h => by simpa using h)
      refine List.Perm.eq_of_pairwise (le := fun x y => x ≤ y) (fun x y _ _ h1 h2 => List.le_antisymm h1 h2) (srt _) (srt _) ?_
      exact (List.mergeSort_perm _ _).trans (hpk.trans (List.mergeSort_perm _ _).symm)
    have hsorted : (ss.mergeSort (fun x y => decide (x ≤ y))).map (fun b => PV.str ⟨b.toArray⟩) = sortedKeys en := by
      rw [hms]; rfl
    have hslen : (sortedKeys en).length = ss.length := by rw [← hsorted]; simp
    have hflat : ∀ l : List (List UInt8), flats (l.map fun b => PV.str ⟨b.toArray⟩) = l.map fun b => PV.str ⟨b.toArray⟩ := by
      intro l
      induction l with
      | nil => rfl
      | cons a r ih => rw [List.map_cons, flats, ih]; rfl
    rcases hrow with ⟨rfl, hz⟩ | ⟨g, cap, cur, rfl, hg, hcells, hcap, -, hcs, htake⟩
    · have h0 : sortedKeys en = [] := List.length_eq_zero_iff.1 (by omega)
      rw [h0] at hK
      by_cases hz : w.heap.size < w'.heap.size
      · exact ⟨_, _, _, μ, _, rfl, hK, .listE 9 none 0, below_hrel hL hb w.heap.size hz, hgone, Nat.le_refl _, below_since hL hb w.heap.size _⟩
      · exact ⟨_, _, _, μ, _, rfl, hK, .listE 9 none 0, below_hrel hL hb 0 (by have := hb.size; omega), hgone, Nat.le_refl _, below_since hL hb 0 _⟩
    · have hgl : g < w'.heap.size := (Array.getElem?_eq_some_iff.1 hcells).1
      refine ⟨_, _, _, μ, _, rfl, hK, ?_, below_hrel hL hb g hgl, hgone, Nat.le_refl _, below_since hL hb g _⟩
      show Rep pvT w' μ _ (.list 9 (sortedKeys en)) _
      rw [← hslen]
      have hcur : ∀ k, k < (sortedKeys en).length → cur[k]? = ((ss.mergeSort (fun x y => decide (x ≤ y))).map encStr)[k]? := by
        intro k hk
        rw [← htake, List.getElem?_take, if_pos (by omega), Array.getElem?_toList]
      have hfl : flats (sortedKeys en) = sortedKeys en := by rw [← hsorted]; exact hflat _
      refine .list 9 (sortedKeys en) g 0 cap (fun k => (cur[k]?).getD .nilFunc) (by omega) (fun x hx => ?_) (.inr ⟨hg, rfl⟩) (fun k hk => ?_) (fun k c hc => ?_)
      · rw [← hsorted] at hx
        obtain ⟨l, -, rfl⟩ := List.mem_map.1 hx
        exact ⟨trivial, rfl, fun c hc => by simp only [flat, List.mem_singleton] at hc; subst hc; trivial⟩
      · rw [hfl] at hk
        have h1 := hcur k hk
        have h2 : k < ((ss.mergeSort (fun x y => decide (x ≤ y))).map encStr).length := by simp; omega
        unfold World.cell?
        rw [hcells]
        simp only [Nat.zero_add]
        rw [h1, List.getElem?_eq_getElem h2]
        rfl
      · rw [hfl] at hc
        have hk : k < (sortedKeys en).length := (List.getElem?_eq_some_iff.1 hc).1
        rw [hcur k hk]
        rw [← hsorted, List.getElem?_map] at hc
        rw [List.getElem?_map]
        cases hl : (ss.mergeSort (fun x y => decide (x ≤ y)))[k]? with
        | none => rw [hl] at hc; cases hc
        | some l =>
          rw [hl] at hc
          cases hc
          exact .str _

theorem W36_ok : Sound Try.prog pvT pvG 36 W36 := P36_ok.weak _

end Pv
