/- The frames thirteenth part: append, whole; each operation. -/
import Derived.Test.YtmaahlifffjeoaaFx
namespace Pv
open Go

section
variable {P : Program} {T : Tab} {hb : Nat} {w : World} {μ : Nat → Option Nat} {ro : Nat → Prop} {L : Heap} {K : PV → Ups → Prop}

theorem dst_empty {e : Nat} (a : Option Addr) (cap : Nat) : Dst P T w μ ro e a cap [] := by
  refine ⟨fun _ h => by simp at h, Nat.zero_le _, #[], by simp, fun w2 _ => ?_, fun k pc hk => by simp [flats] at hk⟩
  cases a <;> simp [Builtin.firstCells, loadCells, loadCellsFrom]

theorem own_none {k : Blk} (hm : μ hb = none) : Own μ μ L (upds L [(hb, k)]) w := by
  intro h b hl hm'
  by_cases e : h = hb
  · subst e; rw [hm] at hm'; cases hm'
  · simp only [upds] at hl; rw [upd_other e] at hl; exact .inl ⟨h, hl, hm'⟩

theorem out_grown {w' : World} {h : Nat} {e cap' : Nat} {zs : List PV} {cells : Array Value} (hg : Grew w w' (.cells cells e (0, 0))) (hT : tabSized T = true) (hL : HRel T w μ ro L) (hf : Fresh hb μ L) (hrow : RowOk T e zs)
    (hle : zs.length ≤ cap') (hsz : cells.size = cap' * (T.at e).size) (hrep : ∀ (k : Nat) pc, (flats zs)[k]? = some pc → ∃ v, cells[k]? = some v ∧ Rep T w μ ro pc v) (hh : L h ≠ .gone) (hK : K (.sl hb e 0 zs.length) [(h, .gone), (hb, .row true e zs)]) :
    Out T hb L μ ro w K (.slice (some ⟨w.heap.size, 0, none⟩) zs.length cap') w' := by
  refine Out.undrop (h := h) (ups0 := [(hb, .row true e zs)]) (fun x hx => by rintro rfl; exact hh (hf x hx.1 hx.2).1) ?_
  exact out_row hg (hL.drop h) hf.drop hrow (by rw [flats_row_length hT zs hrow, hsz]; exact Nat.mul_le_mul_right _ hle) hrep (.inl rfl) hle (by rw [hsz]; exact Nat.le_refl _) ⟨rfl, hK⟩

theorem evAppendTo_sound (hF : tabFits P T 0 T = true) (hT : tabSized T = true) {t u e : Nat} {a : PV} {ys : List PV} {va vx : Value} (ek : (T.at t).kd = .slice e) (hu : ∃ d, P.underlying u = some d ∧ ∀ k, d ≠ .int k) (hno : (T.at e).kd.isOther = false) (hby : 0 < (T.at e).bytes)
    (h : evAppendTo hb L e (T.at e).bytes a ys K) (ha : Rep T w μ ro a va) (hs : Src P T w μ ro e vx ys) (hL : HRel T w μ ro L) (hf : Fresh hb μ L) (ty : TypeId) :
    ∃ r w', (Builtin.append_ #[t, u] ty #[va, vx]).run P w = .ok r w' ∧ Out T hb L μ ro w K r w' := by
  obtain ⟨new, hn1, hn2, hn3⟩ := hs.cells
  have hly := flats_row_length hT ys hs.row
  have hone : ∀ v ∈ new.toList, oneCell v = true := by
    intro v hv
    obtain ⟨k, hk, rfl⟩ := List.getElem_of_mem hv
    have hk' : k < (flats ys).length := by rw [hly, ← hn1]; simpa using hk
    obtain ⟨u, hu1, hr⟩ := hn3 k _ (List.getElem?_eq_getElem hk')
    have key : ∀ q ∈ flats ys, cellC q = true := by
      intro q hm2
      rw [flats_eq, List.mem_flatMap] at hm2
      obtain ⟨y, hy, hcy⟩ := hm2
      exact cellC_of_pureC ((hs.row y hy).2.2 _ hcy)
    have hc := key _ (List.getElem_mem hk')
    have : new.toList[k]? = some u := by simpa using hu1
    rw [List.getElem?_eq_getElem hk] at this
    cases this
    exact hr.one hc
  unfold evAppendTo at h
  split at h
  · rename_i h' e' i n
    split at h
    · rename_i e'' xs eL
      obtain ⟨hc, hn, hroom, hK⟩ := cond_and h
      simp only [Bool.and_eq_true, Nat.beq_eq] at hc
      obtain ⟨⟨rfl, rfl⟩, rfl⟩ := hc
      have hblk := hL.blk h'
      rw [eL] at hblk
      obtain ⟨hrx, hnone, h3⟩ := hblk
      have hlx := flats_row_length hT xs hrx
      have hgone : L h' ≠ .gone := by rw [eL]; intro e; cases e
      rcases ha.sl_inv with ⟨rfl, a, rfl⟩ | ⟨b, cap, c, t', fr, hmu, hcap, hcells, hsz, rfl⟩
      · have hxs : xs = [] := List.length_eq_zero_iff.1 hn.symm
        subst hxs
        by_cases hy : ys = []
        · -- nothing to nothing
          subst hy
          refine ⟨_, w, append_room hF ek hu hno (hs.len w) (hn2 w rfl) (by simp) ty (w' := w) (fun a _ => ?_) (fun _ => rfl), ?_⟩
          · have : new = #[] := by apply Array.eq_empty_of_size_eq_zero; rw [hn1]; simp
            rw [this]; rfl
          · refine Out.undrop (h := h') (ups0 := [(hb, .row true e'' [])]) (fun x hx => by rintro rfl; exact hgone (hf x hx.1 hx.2).1) ?_
            have hfr := hf hb (Nat.le_refl _) (by omega)
            have hL2 := hL.drop h'
            refine ⟨_, _, μ, ⟨rfl, hK⟩, .slE hb e'' 0 a, ?_, Keeps.refl _ _ _, Chg.refl _ _ _, fun _ _ => rfl, fun x hx hg => ?_, own_none hfr.2⟩
            · refine ⟨hL2.lt, fun x b hl hx => ?_, hL2.ro_lt, fun x y b hlx hly2 hx hy => ?_, fun x => ?_⟩
              · by_cases e : x = hb
                · subst e; rw [hfr.2] at hx; cases hx
                · exact hL2.apart x b (by rw [show upds (upd L h' .gone) [(hb, .row true e'' [])] = upd (upd L h' .gone) hb (.row true e'' []) from rfl, upd_other e] at hl; exact hl) hx
              · by_cases e : x = hb
                · subst e; rw [hfr.2] at hx; cases hx
                · by_cases e2 : y = hb
                  · subst e2; rw [hfr.2] at hy; cases hy
                  · have q1 : upds (upd L h' .gone) [(hb, .row true e'' [])] = upd (upd L h' .gone) hb (.row true e'' []) := rfl
                    rw [q1, upd_other e] at hlx
                    rw [q1, upd_other e2] at hly2
                    exact hL2.inj x y b hlx hly2 hx hy
              · have q1 : upds (upd L h' .gone) [(hb, .row true e'' [])] = upd (upd L h' .gone) hb (.row true e'' []) := rfl
                rw [q1]
                by_cases e : x = hb
                · subst e; rw [upd_same, hfr.2]
                  exact ⟨fun _ h => by simp at h, fun _ => rfl, fun b hb' => by cases hb'⟩
                · rw [upd_other e]; exact hL2.blk x
            · show upd (upd L h' .gone) hb _ x = .gone
              rw [upd_other (by omega)]; exact hg
        · have hpos : 0 < ys.length := by rcases ys with _ | _; · exact absurd rfl hy
                                          · simp
          obtain ⟨cells, cap', w', hrun, hgrew, hle, hsz, hrep⟩ := append_grow (vx := vx) (base := a) (cap := 0) hF hT ek hu hno (dst_empty (P := P) (T := T) (w := w) (μ := μ) (ro := ro) (e := e'') a 0) hs (by simpa using hpos) (by simpa using hroom) hby ty
          simp only [List.length_nil, Nat.zero_add, List.nil_append] at hrun hle hrep
          exact ⟨_, w', hrun, out_grown hgrew hT hL hf hs.row hle hsz hrep hgone (by simpa using hK)⟩
      · obtain ⟨-, c', t'', lo, hi, hcells', hnf, hlen, hreps⟩ := h3 b hmu
        rw [hcells] at hcells'; cases hcells'
        by_cases hle : n + ys.length ≤ cap
        · obtain ⟨w', hst, hout⟩ := append_in_place (P := P) (cap := cap) hT hL hf eL hmu hcells (by simpa using hsz) hn hle hs.row hn1 hn3 hone hK
          exact ⟨_, w', append_room hF ek hu hno (hs.len w) (hn2 w rfl) hle ty (fun a e => by cases e; exact hst) (fun e => by cases e), hout⟩
        · subst hn
          have hd : Dst P T w μ ro e'' (some ⟨b, 0 * (T.at e'').size, none⟩) cap xs := by
            have hxe : xs.length ≤ cap := hcap
            refine ⟨hrx, hcap, c.extract 0 (xs.length * (T.at e'').size), by simp; rw [← hlx]; omega, fun w2 hw2 => ?_, fun k pc hk => ?_⟩
            · simp only [Builtin.firstCells]
              have := run_loadCells (P := P) w2 ⟨b, 0 * (T.at e'').size, none⟩ (xs.length * (T.at e'').size) (fun k => c[k]?.getD default) (fun j hj => by
                rw [add_none, cell_of_heap hw2]
                simp only [World.cell?, hcells]
                have : j < c.size := by omega
                simp [this])
              rw [this]
              congr 1
              apply Array.ext_getElem?
              intro k
              by_cases hk : k < xs.length * (T.at e'').size
              · have : k < c.size := by omega
                rw [Array.getElem?_extract, if_pos (by omega)]
                simp [hk, this]
              · rw [Array.getElem?_extract, if_neg (by omega)]
                simp [hk]
            · have hlt := (List.getElem?_eq_some_iff.1 hk).1
              obtain ⟨v, hv, hr⟩ := hreps k pc hk
              refine ⟨v, ?_, hr⟩
              rw [Array.getElem?_extract]
              rw [if_pos (by omega)]
              simpa using hv
          obtain ⟨cells, cap', w', hrun, hgrew, hle2, hsz2, hrep⟩ := append_grow (vx := vx) hF hT ek hu hno hd hs (by omega) hroom hby ty
          refine ⟨_, w', hrun, ?_⟩
          have := out_grown (h := h') (zs := xs ++ ys) hgrew hT hL hf (rowOk_append hrx hs.row) (by simpa using hle2) hsz2 hrep hgone (by simpa using hK)
          simpa using this
    · exact h.elim
  · obtain ⟨hroom, hK⟩ := h
    obtain rfl := ha.nilsl_inv
    by_cases hy : ys = []
    · subst hy
      refine ⟨_, w, append_room hF ek hu hno (hs.len w) (hn2 w rfl) (by simp) ty (w' := w) (fun a e => by cases e) (fun _ => rfl), ?_⟩
      have hfr := hf hb (Nat.le_refl _) (by omega)
      have q1 : upds L [(hb, .row true e [])] = upd L hb (.row true e []) := rfl
      refine ⟨_, _, μ, hK, .slE hb e 0 none, ?_, Keeps.refl _ _ _, Chg.refl _ _ _, fun _ _ => rfl, fun x hx hg => ?_, own_none hfr.2⟩
      · rw [q1]
        refine ⟨hL.lt, fun x b hl hx => ?_, hL.ro_lt, fun x y b hlx hly2 hx hy => ?_, fun x => ?_⟩
        · by_cases e : x = hb
          · subst e; rw [hfr.2] at hx; cases hx
          · rw [upd_other e] at hl; exact hL.apart x b hl hx
        · by_cases e : x = hb
          · subst e; rw [hfr.2] at hx; cases hx
          · by_cases e2 : y = hb
            · subst e2; rw [hfr.2] at hy; cases hy
            · rw [upd_other e] at hlx; rw [upd_other e2] at hly2; exact hL.inj x y b hlx hly2 hx hy
        · by_cases e : x = hb
          · subst e; rw [upd_same, hfr.2]
            exact ⟨fun _ h => by simp at h, fun _ => rfl, fun b hb' => by cases hb'⟩
          · rw [upd_other e]; exact hL.blk x
      · rw [q1, upd_other (by omega)]; exact hg
    · have hpos : 0 < ys.length := by rcases ys with _ | _; · exact absurd rfl hy
                                      · simp
      obtain ⟨cells, cap', w', hrun, hgrew, hle, hsz, hrep⟩ := append_grow (vx := vx) (base := none) (cap := 0) hF hT ek hu hno (dst_empty (P := P) (T := T) (w := w) (μ := μ) (ro := ro) (e := e) none 0) hs (by simpa using hpos) (by simpa using hroom) hby ty
      simp only [List.length_nil, Nat.zero_add, List.nil_append] at hrun hle hrep
      refine ⟨_, w', hrun, ?_⟩
      exact out_row hgrew hL hf hs.row (by rw [hly, hsz]; exact Nat.mul_le_mul_right _ hle) hrep (.inl rfl) hle (by rw [hsz]; exact Nat.le_refl _) hK
  · exact h.elim

end
end Pv
