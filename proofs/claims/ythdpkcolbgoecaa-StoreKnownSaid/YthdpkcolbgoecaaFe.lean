/- The frames nineteenth part: a call of a function, by its contract. -/
import Derived.Test.YthdpkcolbgoecaaFd

namespace Pv
open Go

theorem scalar_rep {T : Tab} {w w' : World} {μ μ' : Nat → Option Nat} {ro ro' : Nat → Prop} {x : PV} {v : Value} (hs : scalar x = true) (h : Rep T w μ ro x v) : Rep T w' μ' ro' x v := by
  cases x <;> simp [scalar] at hs
  · rw [h.bool_inv]; exact .bool _
  · rw [h.int_inv]; exact .int _ _
  · rw [h.str_inv]; exact .str _

theorem scalars_rep {T : Tab} {w w' : World} {μ μ' : Nat → Option Nat} {ro ro' : Nat → Prop} {res : List PV} {v : Value} (hs : res.all scalar = true) (h : Rep T w μ ro (oneRes res) v) : Rep T w' μ' ro' (oneRes res) v := by
  have tup : ∀ l : List PV, l.all scalar = true → Rep T w μ ro (.tup l) v → Rep T w' μ' ro' (.tup l) v := by
    intro l hl h
    obtain ⟨vs, rfl, h1, h2⟩ := h.tup_inv
    refine .tup l vs h1 (fun i x v hx hv => scalar_rep ?_ (h2 i x v hx hv))
    simp only [List.all_eq_true] at hl
    exact hl x (List.mem_of_getElem? hx)
  match res, hs, h with
  | [x], hs, h => exact scalar_rep (x := x) (by simpa using hs) h
  | [], hs, h => exact tup [] hs h
  | x :: y :: r, hs, h => exact tup _ hs h

section
variable {P : Program} {T : Tab} {hb : Nat} {w : World} {μ : Nat → Option Nat} {ro : Nat → Prop} {L : Heap} {K : PV → Ups → Prop}

theorem lent_ro (hL : HRel T w μ ro L) {h b : Nat} (hl : lendable (L h)) (hm : μ h = some b) (hlive : (L h).live = false) : ro b := by
  have hb := hL.blk h
  rw [hm] at hb
  cases e : L h with
  | gone => rw [e] at hl; exact hl.elim
  | row l ty xs => rw [e] at hb hlive; simp only [Blk.live] at hlive; exact (hb.2.2 b rfl).1 hlive
  | box l ty x =>
    rw [e] at hb hlive; simp only [Blk.live] at hlive
    obtain ⟨-, -, -, b', e1, h2, -⟩ := hb
    cases e1; exact h2 hlive
  | map l kt et en =>
    rw [e] at hb hlive; simp only [Blk.live] at hlive
    obtain ⟨-, b', e1, h2, -⟩ := hb
    cases e1; exact h2 hlive
  | iter l kt et rest cur => rw [e] at hl; exact hl.elim

theorem frozen_ro (hL : HRel T w μ ro L) {h b : Nat} (hg : L h ≠ .gone) (hm : μ h = some b) (hlive : (L h).live = false) : ro b := by
  cases e : L h with
  | gone => exact absurd e hg
  | row l ty xs => exact lent_ro hL (by rw [e]; trivial) hm hlive
  | box l ty x => exact lent_ro hL (by rw [e]; trivial) hm hlive
  | map l kt et en => exact lent_ro hL (by rw [e]; trivial) hm hlive
  | iter l kt et rest cur =>
    have hb := hL.blk h
    rw [hm, e] at hb; rw [e] at hlive
    obtain ⟨-, b', e1, h2, -⟩ := hb
    cases e1; exact h2 hlive

/-- A block that says the same of memory behind a step that left it alone. -/
theorem BRel.freeze {w' : World} {μ' : Nat → Option Nat} {ro' : Nat → Prop} (hk : Keeps μ μ' ro ro' w w') {h : Nat} {k : Blk} (hb : ∀ b, μ h = some b → w'.heap[b]? = w.heap[b]?) (hr : ∀ b, μ h = some b → ro' b) (hB : BRel T w μ ro (μ h) k) : BRel T w' μ' ro' (μ h) (Pv.freeze k) := by
  have := hB.keep hk hb
  cases k with
  | gone => trivial
  | row l ty xs =>
    obtain ⟨h1, h2, h3⟩ := this
    refine ⟨h1, h2, fun b e => ?_⟩
    obtain ⟨-, c, t, lo, hi, h5, -, h7, h8⟩ := h3 b e
    exact ⟨fun _ => hr b e, c, t, lo, hi, h5, (fun e => by cases e), h7, h8⟩
  | box l ty x =>
    obtain ⟨h1, h2, h2', b, e, -, c, t, lo, hi, h5, -, h7, h8⟩ := this
    exact ⟨h1, h2, h2', b, e, fun _ => hr b e, c, t, lo, hi, h5, (fun e => by cases e), h7, h8⟩
  | map l kt et en =>
    obtain ⟨h1, b, e, -, h3⟩ := this
    exact ⟨h1, b, e, fun _ => hr b e, h3⟩
  | iter l kt et rest cur =>
    obtain ⟨h1, b, e, -, h3⟩ := this
    exact ⟨h1, b, e, fun _ => hr b e, h3⟩

theorem evCall_sound {C : Ctx} (hT : tabSized C.T = true) (hΦ : ∀ f φ, C.Φ f = some φ → Sound P C.T C.Γ f φ) {f : FuncId} {args : List PV} {vs : Array Value} (h : evCall C hb L f args K)
    (hl : args.length = vs.size) (hr : ∀ (i : Nat) x v, args[i]? = some x → vs[i]? = some v → Rep C.T w μ ro x v) (hL : HRel C.T w μ ro L) (hf : Fresh hb μ L) (hG : GRel C.T C.Γ w μ ro) :
    Calls P f vs w fun e w' => ∃ v, e = .returned v ∧ Out2 C.T hb L μ ro w K v w' := by
  unfold evCall at h
  split at h
  · exact h.elim
  rename_i φ hφ
  obtain ⟨args1, F, h, hlend, hlen1, hrep1⟩ := argsK_sound hT hL args 0 vs.toList _ h (by simpa using hl) (fun k x v h1 h2 => hr k x v h1 (by simpa using h2))
  rw [forceNs_eq] at h
  generalize hR : reach L 60 0 (addNew [] (PV.hss args1)) = R at h
  obtain ⟨hchk, h⟩ := cond_and h
  simp only [Bool.and_eq_true, List.all_eq_true, Bool.not_eq_true'] at hchk
  obtain ⟨⟨hclosed, hFR⟩, hRblk⟩ := hchk
  have hRng : ∀ q ∈ R, L q ≠ .gone := fun q hq e => by have := hRblk q hq; rw [e] at this; cases this
  have hRlt : ∀ q ∈ R, ¬ (hb ≤ q ∧ q < hb + 8) := fun q hq hin => hRng q hq (hf q hin.1 hin.2).1
  have hRn : R.Nodup := by
    rw [← hR]
    exact (reach_spec L 60 0 _ (addNew_spec _ [] List.nodup_nil).1).1
  obtain ⟨hc1, hc2⟩ := closed_spec hclosed
  have hFnR : ∀ q ∈ F, q ∉ R := fun q hq hm => by
    have := hFR q hq
    rw [List.contains_iff_mem.2 hm] at this; cases this
  -- the callee's view
  let roc : Nat → Prop := roF μ ro F
  let μc : Nat → Option Nat := muOf R μ
  let Lc : List Blk := R.map fun h => (L h).ren (idx R)
  have hLcl : Lc.length = R.length := by simp [Lc]
  have hLcget : ∀ k q, R[k]? = some q → hp Lc k = (L q).ren (idx R) := fun k q e => by simp [hp, Lc, List.getD, e]
  have hcl : ∀ k b, (hp Lc k).live = true → μc k = some b → ∃ q, R[k]? = some q ∧ (L q).live = true ∧ μ q = some b := fun k b hlv hm => by
    simp only [μc, muOf] at hm
    cases e : R[k]? with
    | none => rw [e] at hm; cases hm
    | some q => rw [e] at hm; rw [hLcget k q e, live_ren] at hlv; exact ⟨q, rfl, hlv, hm⟩
  have hroc_live : ∀ b, roc b → ∀ q, q ∈ R → (L q).live = true → μ q ≠ some b := by
    intro b hrb q hq hlv hm
    rcases hrb with hrb | ⟨q2, hq2, hm2⟩
    · exact hL.apart q b hlv hm hrb
    · by_cases h2 : (L q2).live = true
      · have := hL.inj q q2 b hlv h2 hm hm2
        subst this
        exact hFnR q hq2 hq
      · exact hL.apart q b hlv hm (lent_ro hL (hlend q2 hq2) hm2 (by simpa using h2))
  have hroc_lt : ∀ b, roc b → b < w.heap.size := fun b hrb => by
    rcases hrb with hrb | ⟨q2, _, hm2⟩
    · exact hL.ro_lt b hrb
    · exact hL.lt q2 b hm2
  have hkc : Keeps μ μ ro roc w w := ⟨fun _ _ h => h, fun _ h => .inl h, fun _ _ => rfl, fun _ c t fr h => ⟨c, fr, h, rfl⟩⟩
  have hLc : HRel C.T w μc roc (hp Lc) := by
    have h0 := hL.renum (xs := args1) hRn hclosed
    refine ⟨h0.lt, fun k b hlv hm hrb => ?_, hroc_lt, h0.inj, fun k => ?_⟩
    · obtain ⟨q, e, hlq, hmq⟩ := hcl k b hlv hm
      exact hroc_live b hrb q (List.mem_of_getElem? e) hlq hmq
    · exact (h0.blk k).keep ⟨fun _ _ h => h, fun _ h => .inl h, fun _ _ => rfl, fun _ c t fr h => ⟨c, fr, h, rfl⟩⟩ (fun _ _ => rfl)
  have hargs : ∀ (i : Nat) x v, (PV.rens (idx R) args1)[i]? = some x → vs[i]? = some v → Rep C.T w μc roc x v := fun i x v hx hv => by
    rw [rens_eq, List.getElem?_map, Option.map_eq_some_iff] at hx
    obtain ⟨y, hy, rfl⟩ := hx
    exact (hrep1 i y v hy (by simpa using hv)).ren (fun q hq => muOf_idx (hc1 y (List.mem_of_getElem? hy) q hq))
  have hGc : GRel C.T C.Γ w μc roc := (hG.keep hkc).mu
  refine (hΦ f φ hφ Lc _ _ h w μc roc vs (by rw [rens_eq, List.length_map, hlen1]; simp) hargs hLc (fun k hk => by simp only [μc, muOf]; rw [List.getElem?_eq_none (by omega)]; rfl) hGc).mono ?_
  rintro e w' ⟨v, bs, res, μ', ro', rfl, hK, hres, hL', hnone, hle, hs⟩
  refine ⟨v, rfl, ?_⟩
  obtain ⟨hchk2, hK⟩ := cond_and hK
  simp only [Bool.and_eq_true, Nat.ble_eq, List.all_eq_true, Nat.blt_eq] at hchk2
  obtain ⟨⟨hbl, hbhs⟩, hrhs⟩ := hchk2
  -- blocks of the caller that the callee could not write
  have hunt : ∀ q b, (L q).live = true → q ∉ R → μ q = some b → w'.heap[b]? = w.heap[b]? := fun q b hlv hq hm =>
    hs.same b (hL.lt q b hm) (fun k hk hmk => by
      obtain ⟨q2, e, h2, h3⟩ := hcl k b hk hmk
      have := hL.inj q q2 b hlv h2 hm h3
      subst this
      exact hq (List.mem_of_getElem? e))
  have hros : ∀ b, ro b → w'.heap[b]? = w.heap[b]? := fun b hrb =>
    hs.same b (hL.ro_lt b hrb) (fun k hk hmk => by
      obtain ⟨q2, e, h2, h3⟩ := hcl k b hk hmk
      exact hL.apart q2 b h2 h3 hrb)
  have hchg : Chg μ L w w' := ⟨hs.os, hs.tape, hs.output, hs.size, fun b hlt hn => hs.same b hlt (fun k hk hmk => by
    obtain ⟨q2, e, h2, h3⟩ := hcl k b hk hmk
    exact hn q2 h2 h3)⟩
  cases hlendc : (Nat.beq bs.length 0 && res.all scalar) with
  | true =>
    rw [hlendc] at hK
    simp only [Bool.and_eq_true, Nat.beq_eq] at hlendc
    have hR0 : R = [] := by
      have : R.length = 0 := by omega
      exact List.length_eq_zero_iff.1 this
    have hall : ∀ b, b < w.heap.size → w'.heap[b]? = w.heap[b]? := fun b hlt => hs.same b hlt (fun k hk hmk => by
      obtain ⟨q2, e, -⟩ := hcl k b hk hmk
      rw [hR0] at e; simp at e)
    have hkeep : Keeps μ μ ro ro w w' := ⟨fun _ _ h => h, fun _ h => h, hros, hs.shape⟩
    refine ⟨_, [], μ, ro, hK, scalars_rep hlendc.2 hres, ?_, hkeep, hchg, fun _ _ => rfl, fun _ _ h => h, Own.refl _ _ _, fun _ h => .inl h⟩
    exact ⟨fun q b hm => Nat.lt_of_lt_of_le (hL.lt q b hm) hs.size, hL.apart, fun b hrb => Nat.lt_of_lt_of_le (hL.ro_lt b hrb) hs.size, hL.inj, fun q => (hL.blk q).keep hkeep (fun b hm => hall b (hL.lt q b hm))⟩
  | false =>
    rw [hlendc] at hK
    simp only [cond_false, forceV_eq, forceU_eq] at hK
    generalize hback : backOf R hb = back at hK
    have hback1 : ∀ i, i < R.length → R[i]? = some (back i) := fun i hi => by
      rw [← hback]; unfold backOf
      have : Nat.blt i R.length = true := by simpa using hi
      simp only [this, cond_true, List.getD, List.getElem?_eq_getElem hi, Option.getD_some]
    have hback2 : ∀ i, R.length ≤ i → back i = hb + (i - R.length) := fun i hi => by
      rw [← hback]; unfold backOf
      have : Nat.blt i R.length = false := by
        cases e : Nat.blt i R.length with
        | false => rfl
        | true => simp only [Nat.blt_eq] at e; omega
      simp only [this, cond_false]
    have hbackR : ∀ i, i < R.length → back i ∈ R := fun i hi => List.mem_of_getElem? (hback1 i hi)
    have hbacklt : ∀ i, i < R.length → ¬ (hb ≤ back i ∧ back i < hb + 8) := fun i hi => hRlt _ (hbackR i hi)
    have hbinj : ∀ i j, i < bs.length → j < bs.length → back i = back j → i = j := fun i j hi hj e => by
      rcases Nat.lt_or_ge i R.length with h1 | h1 <;> rcases Nat.lt_or_ge j R.length with h2 | h2
      · have e1 := hback1 i h1
        rw [e, ← hback1 j h2] at e1
        exact (List.getElem?_inj h1 hRn).1 e1
      · have := hbacklt i h1; rw [e, hback2 j h2] at this; exact absurd ⟨Nat.le_add_right _ _, by omega⟩ this
      · have := hbacklt j h2; rw [← e, hback2 i h1] at this; exact absurd ⟨Nat.le_add_right _ _, by omega⟩ this
      · rw [hback2 i h1, hback2 j h2] at e; omega
    let ups1 : Ups := bs.mapIdx fun i b => (back i, b.ren back)
    have hkeys : (ups1.map (·.1)).Nodup := by
      rw [List.nodup_iff_pairwise_ne] at *
      rw [List.pairwise_iff_getElem]
      intro i j hi hj hij
      simp only [ups1, List.length_map, List.length_mapIdx] at hi hj
      simp only [ups1, List.getElem_map, List.getElem_mapIdx]
      intro e
      have := hbinj i j hi hj e
      omega
    have hupsin : ∀ i (hi : i < bs.length), (back i, (bs[i]).ren back) ∈ ups1 := fun i hi => by
      simp only [ups1, List.mem_mapIdx]
      exact ⟨i, hi, rfl⟩
    have hupskey : ∀ u ∈ ups1, ∃ i, i < bs.length ∧ u.1 = back i := fun u hu => by
      simp only [ups1, List.mem_mapIdx] at hu
      obtain ⟨i, hi, rfl⟩ := hu
      exact ⟨i, hi, rfl⟩
    have hFback : ∀ q ∈ F, ∀ i, i < bs.length → back i ≠ q := fun q hq i hi e => by
      rcases Nat.lt_or_ge i R.length with h1 | h1
      · exact hFnR q hq (e ▸ hbackR i h1)
      · have h2 := hlend q hq
        rw [← e, hback2 i h1, (hf (hb + (i - R.length)) (by omega) (by omega)).1] at h2
        exact h2
    let L2 : Heap := upds L (ups1 ++ F.map fun h => (h, freeze (L h)))
    have hM : ∀ q, (∀ i, i < bs.length → back i ≠ q) → upds L ups1 q = L q := fun q hq => upds_notin ups1 q (fun u hu e => by
      obtain ⟨i, hi, e2⟩ := hupskey u hu
      exact hq i hi (e2 ▸ e))
    have hL2 : ∀ x, L2 x = if x ∈ F then freeze (L x) else upds L ups1 x := fun x => by
      simp only [L2]
      rw [upds_append, upds_freeze F (upds L ups1) (fun q hq => .inl (hM q (hFback q hq)))]
    have hL2A : ∀ i (hi : i < bs.length), L2 (back i) = (bs[i]).ren back := fun i hi => by
      rw [hL2, if_neg (fun hm => hFback _ hm i hi rfl)]
      exact upds_in ups1 L (hupsin i hi) hkeys
    have hL2F : ∀ q ∈ F, L2 q = freeze (L q) := fun q hq => by rw [hL2, if_pos hq]
    have hL2C : ∀ q, (∀ i, i < bs.length → back i ≠ q) → q ∉ F → L2 q = L q := fun q h1 h2 => by rw [hL2, if_neg h2]; exact hM q h1
    have hbsget : ∀ i (hi : i < bs.length), hp bs i = bs[i] := fun i hi => by simp [hp, List.getD, hi]
    let μ2 : Nat → Option Nat := fun h => if hb ≤ h ∧ h < hb + 8 then μ' (R.length + (h - hb)) else μ h
    have hμ2o : ∀ h, (h < hb ∨ hb + 8 ≤ h) → μ2 h = μ h := fun h hh => by simp only [μ2]; rw [if_neg (by omega)]
    have hμ2A : ∀ i, i < bs.length → μ2 (back i) = μ' i := fun i hi => by
      rcases Nat.lt_or_ge i R.length with h1 | h1
      · rw [hμ2o _ (by have := hbacklt i h1; omega), hs.mup i (by omega)]
        simp only [μc, muOf, hback1 i h1]; rfl
      · simp only [μ2]
        rw [hback2 i h1, if_pos (by omega)]
        congr 1; omega
    have hμ2new : ∀ h, hb ≤ h → h < hb + 8 → (∀ i, i < bs.length → back i ≠ h) → μ2 h = none := fun h h1 h2 hn => by
      simp only [μ2]
      rw [if_pos ⟨h1, h2⟩]
      refine hnone _ (Nat.le_of_not_lt fun hlt => ?_)
      exact hn (R.length + (h - hb)) hlt (by rw [hback2 _ (by omega)]; omega)
    -- another block, that was there
    have hold : ∀ q b, (∀ i, i < bs.length → back i ≠ q) → μ2 q = some b → μ q = some b := fun q b hn hm => by
      by_cases hin : hb ≤ q ∧ q < hb + 8
      · rw [hμ2new q hin.1 hin.2 hn] at hm; cases hm
      · rw [hμ2o q (by omega)] at hm; exact hm
    have hnotR : ∀ q, (∀ i, i < bs.length → back i ≠ q) → q ∉ R := fun q hn hm => by
      obtain ⟨i, hi, e⟩ := List.getElem_of_mem hm
      have := hback1 i hi
      rw [List.getElem?_eq_getElem hi] at this
      exact hn i (by omega) (by rw [← e]; exact (Option.some.inj this).symm)
    have hkeep : Keeps μ μ2 ro ro' w w' := by
      refine ⟨fun q b hm => ?_, fun b hrb => hs.ro_mono b (.inl hrb), hros, hs.shape⟩
      have : ¬ (hb ≤ q ∧ q < hb + 8) := fun hin => by rw [(hf q hin.1 hin.2).2] at hm; cases hm
      rw [hμ2o q (by omega)]; exact hm
    have hro'live : ∀ q b, (L q).live = true → q ∉ R → q ∉ F → μ q = some b → ¬ ro' b := fun q b hlv hq hqF hm hrb => by
      rcases hs.ro_grow b hrb with h1 | h1 | ⟨k, hk, hmk⟩
      · rcases h1 with h1 | ⟨q2, hq2, hm2⟩
        · exact hL.apart q b hlv hm h1
        · by_cases h2 : (L q2).live = true
          · have := hL.inj q q2 b hlv h2 hm hm2
            subst this; exact hqF hq2
          · exact hL.apart q b hlv hm (lent_ro hL (hlend q2 hq2) hm2 (by simpa using h2))
      · have := hL.lt q b hm; omega
      · obtain ⟨q2, e, h2, h3⟩ := hcl k b hk hmk
        have := hL.inj q q2 b hlv h2 hm h3
        subst this; exact hq (List.mem_of_getElem? e)
    have hcallee : ∀ i b, i < bs.length → (hp bs i).live = true → μ' i = some b → (∃ q, q ∈ R ∧ (L q).live = true ∧ μ q = some b) ∨ w.heap.size ≤ b := fun i b hi hlv hm => by
      rcases hs.own i b hlv hm with ⟨k, hk, hmk⟩ | h1
      · obtain ⟨q2, e, h2, h3⟩ := hcl k b hk hmk
        exact .inl ⟨q2, List.mem_of_getElem? e, h2, h3⟩
      · exact .inr h1
    have hqs : ∀ i (hi : i < bs.length), ∀ q ∈ (bs[i]).hs, μ2 (back q) = μ' q := fun i hi q hq => hμ2A q (hbhs _ (List.getElem_mem hi) q hq)
    refine ⟨_, _, μ2, ro', hK, ?_, ?_, hkeep, hchg, hμ2o, fun q hq hg => ?_, fun q b hlv hm => ?_, fun b hrb => ?_⟩
    · -- the result
      refine hres.ren (fun q hq => hμ2A q (hrhs q ?_))
      match res, hq with
      | [x], hq => simpa [PV.hss, oneRes] using hq
      | [], hq => simpa [oneRes, PV.hs] using hq
      | x :: y :: r, hq => simpa [oneRes, PV.hs] using hq
    · -- the heap
      show HRel C.T w' μ2 ro' L2
      refine ⟨fun q b hm => ?_, fun q b hlv hm => ?_, hL'.ro_lt, fun q q2 b hl1 hl2 hm1 hm2 => ?_, fun q => ?_⟩
      · by_cases hA : ∃ i, i < bs.length ∧ back i = q
        · obtain ⟨i, hi, rfl⟩ := hA
          rw [hμ2A i hi] at hm
          exact hL'.lt i b hm
        · have hn : ∀ i, i < bs.length → back i ≠ q := fun i hi e => hA ⟨i, hi, e⟩
          exact Nat.lt_of_lt_of_le (hL.lt q b (hold q b hn hm)) hs.size
      · by_cases hA : ∃ i, i < bs.length ∧ back i = q
        · obtain ⟨i, hi, rfl⟩ := hA
          rw [hμ2A i hi] at hm
          rw [hL2A i hi, live_ren, ← hbsget i hi] at hlv
          exact hL'.apart i b hlv hm
        · have hn : ∀ i, i < bs.length → back i ≠ q := fun i hi e => hA ⟨i, hi, e⟩
          by_cases hqF : q ∈ F
          · rw [hL2F q hqF, live_freeze] at hlv; cases hlv
          · rw [hL2C q hn hqF] at hlv
            exact hro'live q b hlv (hnotR q hn) hqF (hold q b hn hm)
      · by_cases hA : ∃ i, i < bs.length ∧ back i = q <;> by_cases hA2 : ∃ i, i < bs.length ∧ back i = q2
        · obtain ⟨i, hi, rfl⟩ := hA
          obtain ⟨j, hj, rfl⟩ := hA2
          rw [hμ2A i hi] at hm1; rw [hμ2A j hj] at hm2
          rw [hL2A i hi, live_ren, ← hbsget i hi] at hl1
          rw [hL2A j hj, live_ren, ← hbsget j hj] at hl2
          rw [hL'.inj i j b hl1 hl2 hm1 hm2]
        · obtain ⟨i, hi, rfl⟩ := hA
          have hn : ∀ i, i < bs.length → back i ≠ q2 := fun i hi e => hA2 ⟨i, hi, e⟩
          rw [hμ2A i hi] at hm1
          rw [hL2A i hi, live_ren, ← hbsget i hi] at hl1
          have hm2' := hold q2 b hn hm2
          have hqF : q2 ∉ F := fun hm => by rw [hL2F q2 hm, live_freeze] at hl2; cases hl2
          rw [hL2C q2 hn hqF] at hl2
          rcases hcallee i b hi hl1 hm1 with ⟨q3, h3, h4, h5⟩ | h3
          · have := hL.inj q2 q3 b hl2 h4 hm2' h5
            subst this; exact absurd h3 (hnotR q2 hn)
          · have := hL.lt q2 b hm2'; omega
        · obtain ⟨i, hi, rfl⟩ := hA2
          have hn : ∀ i, i < bs.length → back i ≠ q := fun i hi e => hA ⟨i, hi, e⟩
          rw [hμ2A i hi] at hm2
          rw [hL2A i hi, live_ren, ← hbsget i hi] at hl2
          have hm1' := hold q b hn hm1
          have hqF : q ∉ F := fun hm => by rw [hL2F q hm, live_freeze] at hl1; cases hl1
          rw [hL2C q hn hqF] at hl1
          rcases hcallee i b hi hl2 hm2 with ⟨q3, h3, h4, h5⟩ | h3
          · have := hL.inj q q3 b hl1 h4 hm1' h5
            subst this; exact absurd h3 (hnotR q hn)
          · have := hL.lt q b hm1'; omega
        · have hn : ∀ i, i < bs.length → back i ≠ q := fun i hi e => hA ⟨i, hi, e⟩
          have hn2 : ∀ i, i < bs.length → back i ≠ q2 := fun i hi e => hA2 ⟨i, hi, e⟩
          have hqF : q ∉ F := fun hm => by rw [hL2F q hm, live_freeze] at hl1; cases hl1
          have hqF2 : q2 ∉ F := fun hm => by rw [hL2F q2 hm, live_freeze] at hl2; cases hl2
          rw [hL2C q hn hqF] at hl1
          rw [hL2C q2 hn2 hqF2] at hl2
          exact hL.inj q q2 b hl1 hl2 (hold q b hn hm1) (hold q2 b hn2 hm2)
      · by_cases hA : ∃ i, i < bs.length ∧ back i = q
        · obtain ⟨i, hi, rfl⟩ := hA
          rw [hμ2A i hi, hL2A i hi]
          have := hL'.blk i
          rw [hbsget i hi] at this
          exact this.ren (hqs i hi)
        · have hn : ∀ i, i < bs.length → back i ≠ q := fun i hi e => hA ⟨i, hi, e⟩
          have hmq : BRel C.T w' μ2 ro' (μ q) (L2 q) := by
            by_cases hqF : q ∈ F
            · rw [hL2F q hqF]
              refine BRel.freeze hkeep (fun b hm => ?_) (fun b hm => hs.ro_mono b (.inr ⟨q, hqF, hm⟩)) (hL.blk q)
              by_cases h2 : (L q).live = true
              · exact hunt q b h2 (hFnR q hqF) hm
              · exact hros b (lent_ro hL (hlend q hqF) hm (by simpa using h2))
            · rw [hL2C q hn hqF]
              by_cases hg : L q = .gone
              · rw [hg]; trivial
              · refine (hL.blk q).keep hkeep (fun b hm => ?_)
                by_cases h2 : (L q).live = true
                · exact hunt q b h2 (hnotR q hn) hm
                · exact hros b (frozen_ro hL hg hm (by simpa using h2))
          by_cases hin : hb ≤ q ∧ q < hb + 8
          · have hg := (hf q hin.1 hin.2).1
            have hqF : q ∉ F := fun hm => by have := hlend q hm; rw [hg] at this; exact this
            rw [hL2C q hn hqF, hg]; trivial
          · rw [hμ2o q (by omega)]; exact hmq
    · -- what was free is free
      have hn : ∀ i, i < bs.length → back i ≠ q := fun i hi e => by
        rcases Nat.lt_or_ge i R.length with h1 | h1
        · exact hRng _ (hbackR i h1) (e ▸ hg)
        · rw [hback2 i h1] at e; omega
      have hqF : q ∉ F := fun hm => by have := hlend q hm; rw [hg] at this; exact this
      show L2 q = .gone
      rw [hL2C q hn hqF]; exact hg
    · -- whose blocks
      by_cases hA : ∃ i, i < bs.length ∧ back i = q
      · obtain ⟨i, hi, rfl⟩ := hA
        rw [hμ2A i hi] at hm
        have hlv' : (L2 (back i)).live = true := hlv
        rw [hL2A i hi, live_ren, ← hbsget i hi] at hlv'
        rcases hcallee i b hi hlv' hm with ⟨q3, -, h4, h5⟩ | h3
        · exact .inl ⟨q3, h4, h5⟩
        · exact .inr h3
      · have hn : ∀ i, i < bs.length → back i ≠ q := fun i hi e => hA ⟨i, hi, e⟩
        have hlv' : (L2 q).live = true := hlv
        have hqF : q ∉ F := fun hm => by rw [hL2F q hm, live_freeze] at hlv'; cases hlv'
        rw [hL2C q hn hqF] at hlv'
        exact .inl ⟨q, hlv', hold q b hn hm⟩
    · rcases hs.ro_grow b hrb with h1 | h1 | ⟨k, hk, hmk⟩
      · rcases h1 with h1 | ⟨q2, hq2, hm2⟩
        · exact .inl h1
        · by_cases h2 : (L q2).live = true
          · exact .inr (.inr ⟨q2, h2, hm2⟩)
          · exact .inl (lent_ro hL (hlend q2 hq2) hm2 (by simpa using h2))
      · exact .inr (.inl h1)
      · obtain ⟨q2, e, h2, h3⟩ := hcl k b hk hmk
        exact .inr (.inr ⟨q2, h2, h3⟩)

end
end Pv
