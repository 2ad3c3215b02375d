/- The frames part on copy. -/
import Derived.Test.YthdpkcolbgoecaaFj

namespace Pv
open Go

section
variable {P : Program} {T : Tab} {hb : Nat} {w : World} {μ : Nat → Option Nat} {ro : Nat → Prop} {L : Heap} {K : PV → Ups → Prop}

theorem splice_get (xs ys : List PV) (i n k : Nat) (h : i + n ≤ xs.length) : (splice xs ys i n)[k]? = if i ≤ k ∧ k < i + min n ys.length then ys[k - i]? else xs[k]? := by
  unfold splice
  have h1 : (xs.take i).length = i := by simp; omega
  have h2 : (ys.take n).length = min n ys.length := by simp
  by_cases hk : k < i
  · rw [List.getElem?_append_left (by omega), if_neg (by omega), List.getElem?_take, if_pos hk]
  · rw [List.getElem?_append_right (by omega), h1]
    by_cases hk2 : k < i + min n ys.length
    · rw [if_pos (by omega), List.getElem?_append_left (by omega), List.getElem?_take, if_pos (by omega)]
    · rw [if_neg (by omega), List.getElem?_append_right (by omega), h2, List.getElem?_drop]
      congr 1; omega
theorem splice_length (xs ys : List PV) (i n : Nat) (h : i + n ≤ xs.length) : (splice xs ys i n).length = xs.length := by
  unfold splice; simp; omega
theorem splice_mem {xs ys : List PV} {i n : Nat} {x : PV} (h : x ∈ splice xs ys i n) : x ∈ xs ∨ x ∈ ys := by
  unfold splice at h
  simp only [List.mem_append] at h
  rcases h with h | h | h
  · exact .inl (List.mem_of_mem_take h)
  · exact .inr (List.mem_of_mem_take h)
  · exact .inl (List.mem_of_mem_drop h)

/-- The first cells of what is shown, elements of one cell each. -/
theorem first_cells {e : Nat} {v : Value} {ys : List PV} (hs : Shows T w μ ro e v ys) (hpu : ∀ c ∈ ys, pureC c) (n : Nat) (hn : n ≤ ys.length) :
    ∃ new : Array Value, new.size = n ∧ (Builtin.firstCells 1 n v).run P w = .ok new w ∧ ∀ (k : Nat) pc, k < n → ys[k]? = some pc → ∃ u, new[k]? = some u ∧ Rep T w μ ro pc u ∧ oneCell u = true := by
  obtain ⟨a, cap, rfl, hcap, hne⟩ := hs.val
  rw [flats_cells hpu] at hne
  by_cases he : ys = []
  · subst he
    have : n = 0 := by simpa using hn
    subst this
    refine ⟨#[], rfl, ?_, fun k pc hk => by omega⟩
    cases a <;> simp [Builtin.firstCells, loadCells, loadCellsFrom]
  · obtain ⟨b, off, rfl, hm⟩ := hne he
    let f : Nat → Value := fun k => (w.cell? ⟨b, off + k, none⟩).getD default
    have hf : ∀ k, k < n → w.cell? ⟨b, off + k, none⟩ = some (f k) := fun k hk => by
      obtain ⟨u, hu, _⟩ := hm k _ (List.getElem?_eq_getElem (by omega))
      simp only [f, hu, Option.getD_some]
    refine ⟨((List.range n).map f).toArray, by simp, ?_, fun k pc hlt hk => ?_⟩
    · simp only [Builtin.firstCells, Nat.mul_one]
      exact run_loadCells w ⟨b, off, none⟩ _ f (fun j hj => by rw [add_none]; exact hf j hj)
    · obtain ⟨u, hu, hr⟩ := hm k pc hk
      have := hf k hlt
      rw [hu] at this
      have e : f k = u := (Option.some.inj this).symm
      exact ⟨f k, by simp [hlt], by rw [e]; exact hr, by rw [e]; exact hr.one (cellC_of_pureC (hpu pc (List.mem_of_getElem? hk)))⟩

theorem pure_row {e : Nat} {ys : List PV} (hr : RowOk T e ys) (h1 : (T.at e).kd.isAgg = false) : ∀ c ∈ ys, pureC c := fun c hc => by
  obtain ⟨_, hf, hp⟩ := hr c hc
  rcases pureV_cases hp with h | ⟨h, _⟩
  · exact h
  · rw [fits_isAgg hf, h1] at h; cases h

theorem copy_sound (hF : tabFits P T 0 T = true) (hT : tabSized T = true) {t : Nat} {ts : List TypeId} {ty : TypeId} {x y : PV} {v u : Value} (h : evCopy T L t x y K) (hx : Rep T w μ ro x v) (hy : Rep T w μ ro y u) (hL : HRel T w μ ro L) :
    ∃ r w', (Builtin.copy_ (t :: ts).toArray ty #[v, u]).run P w = .ok r w' ∧ Out T hb L μ ro w K r w' := by
  unfold evCopy at h
  split at h
  · rename_i e ek
    obtain ⟨i0, d0, z0, hi0⟩ := under_of hF ek (by simp)
    have hu := hi0.kd_slice ek
    obtain ⟨hc, h0⟩ := cond_and h
    clear h
    simp only [Bool.and_eq_true, Bool.not_eq_true'] at hc
    obtain ⟨hag, hno⟩ := hc
    have hsz := size_scalar hT hag hno
    have hno' : (T.at e).kd ≠ .other := fun e' => by rw [e'] at hno; simp [Kd.isOther] at hno
    obtain ⟨i1, d1, z1, hi1⟩ := tiOk_of hF e hno'
    obtain ⟨ys, h, hs⟩ := showK_sound hT h0 hy hL
    clear h0
    have hpu := pure_row hs.row hag
    obtain ⟨a, cap, hu', -, -⟩ := hs.val
    have hlen : (Builtin.lenOf u).run P w = .ok ys.length w := by rw [hu']; rfl
    have hn0 : ∀ n : Nat, Nat.min ys.length n = min n ys.length := fun n => Nat.min_comm _ _
    -- the run, from a base and a length on
    have hrun : ∀ (base : Option Addr) (n c : Nat) (w' : World) (new : Array Value), (Builtin.firstCells 1 (min n ys.length) u).run P w = .ok new w → (match base with | some a => (storeCells a new.toList 0).run P w = .ok () w' | none => w' = w) →
        (Builtin.copy_ (t :: ts).toArray ty #[.slice base n c, u]).run P w = .ok (goInt (min n ys.length : Nat)) w' := fun base n c w' new h1 h2 => by
      cases base with
      | none => subst h2; simp [Builtin.copy_, run_underlying hu, hlen, hi1.run_sizeOf, hsz, hn0, h1]
      | some a => simp [Builtin.copy_, run_underlying hu, hlen, hi1.run_sizeOf, hsz, hn0, h1, h2]
    split at h
    · rename_i h' e' i n
      split at h
      · rename_i e'' xs eL
        obtain ⟨hc, hin, hK⟩ := cond_and h
        simp only [Bool.and_eq_true, Nat.beq_eq] at hc
        obtain ⟨rfl, rfl⟩ := hc
        obtain ⟨new, n1, n2, n3⟩ := first_cells (P := P) hs hpu (min n ys.length) (Nat.min_le_right _ _)
        have hgo : ∀ w' , (Rep T w' μ ro (.int .i64 ((min ys.length n : Nat) : Int)) (goInt (min n ys.length : Nat))) := fun w' => by rw [Nat.min_comm]; exact .int _ _
        have hblk := hL.blk h'
        rw [eL] at hblk
        obtain ⟨hrow, hnone, h3⟩ := hblk
        have hlive : (L h').live = true := by rw [eL]; rfl
        have hpx := pure_row hrow hag
        have hrow' : RowOk T e'' (splice xs ys i n) := fun z hz => by
          rcases splice_mem hz with hz | hz
          · exact hrow z hz
          · exact hs.row z hz
        rcases hx.sl_inv with ⟨rfl, a', rfl⟩ | ⟨b, cap', c, tt, fr, hmu, hncap, hcells0, hroom, rfl⟩
        · -- nothing is copied
          have e0 : splice xs ys i 0 = xs := by
            apply List.ext_getElem?
            intro k
            rw [splice_get _ _ _ _ _ hin, if_neg (by omega)]
          have hz : min 0 ys.length = 0 := by omega
          rw [e0] at hK
          rw [hz] at n1
          have hne : new.toList = [] := by simpa using n1
          refine ⟨_, w, hrun a' 0 0 w new n2 (by cases a' with | none => rfl | some a' => rw [hne]; rfl), .int .i64 _, _, μ, hK, hgo w, ?_, Keeps.refl _ _ _, Chg.refl _ _ _, fun _ _ => rfl, fun q _ hg => ?_, fun q b' hl hm => .inl ?_⟩
          · have : upds L [(h', .row true e'' xs)] = L := by
              funext q; simp only [upds]
              by_cases eq : q = h'
              · subst eq; rw [upd_same, eL]
              · rw [upd_other eq]
            rw [this]; exact hL
          · simp only [upds]; rw [upd_other (by rintro rfl; rw [eL] at hg; cases hg)]; exact hg
          · by_cases eq : q = h'
            · subst eq; exact ⟨q, hlive, hm⟩
            · simp only [upds] at hl; rw [upd_other eq] at hl; exact ⟨q, hl, hm⟩
        · obtain ⟨-, c1, tt1, lo, hi, hcells, hnf, hlenx, hrep⟩ := h3 b hmu
          rw [flats_cells hpx] at hlenx hrep
          rw [hsz, Nat.mul_one]
          obtain ⟨c', w', hst, hw, hcs, hck⟩ := run_storeCells_wrote (P := P) (off := i) new.toList 0 c1 w hcells (by simp [n1]; omega) (nofr (hnf rfl)) (by
            intro v hv
            obtain ⟨k, hk, rfl⟩ := List.getElem_of_mem hv
            have hk' : k < min n ys.length := by simpa [n1] using hk
            obtain ⟨q, hq, -, ho⟩ := n3 k _ hk' (List.getElem?_eq_getElem (by omega))
            have : new.toList[k]? = some q := by simpa using hq
            rw [List.getElem?_eq_getElem hk] at this
            cases this; exact ho)
          have hkeep := hw.keeps (μ := μ) (hL.apart h' b hlive hmu) hcells hcs
          refine ⟨_, w', hrun (some ⟨b, i, none⟩) n cap' w' new n2 hst, .int .i64 _, _, μ, hK, hgo w', ?_, hkeep, hw.chg hlive hmu, fun _ _ => rfl, fun q hq hg => ?_, fun q b' hl hm => .inl ?_⟩
          · refine hw.hrel hL hlive hmu hcells hcs ⟨hrow', (fun e => by cases e), fun b' hb' => ?_⟩
            cases hb'
            refine ⟨(fun e => by cases e), c', tt1, lo, hi, hw.at_, fun _ => by have := hnf rfl; omega, ?_, fun k pc hk => ?_⟩
            · rw [flats_cells (pure_row hrow' hag), splice_length _ _ _ _ hin, hcs]; exact hlenx
            · rw [flats_cells (pure_row hrow' hag), splice_get _ _ _ _ _ hin] at hk
              rw [hck k]
              simp only [Nat.add_zero, Array.length_toList, n1]
              by_cases hk2 : i ≤ k ∧ k < i + min n ys.length
              · rw [if_pos hk2] at hk ⊢
                obtain ⟨q, hq, hr, -⟩ := n3 (k - i) pc (by omega) hk
                exact ⟨q, by simpa using hq, hr.keep hkeep⟩
              · rw [if_neg hk2] at hk ⊢
                obtain ⟨q, hq, hr⟩ := hrep k pc hk
                exact ⟨q, hq, hr.keep hkeep⟩
          · simp only [upds]; rw [upd_other (by rintro rfl; rw [eL] at hg; cases hg)]; exact hg
          · by_cases eq : q = h'
            · subst eq; exact ⟨q, hlive, hm⟩
            · simp only [upds] at hl; rw [upd_other eq] at hl; exact ⟨q, hl, hm⟩
      · exact h.elim
    · rename_i h' ty1 i p e' j n
      split at h
      · rename_i ty' z eL
        obtain ⟨hc, hsub⟩ := cond_and h
        clear h
        simp only [Bool.and_eq_true, Nat.beq_eq] at hc
        obtain ⟨⟨rfl, rfl⟩, rfl⟩ := hc
        have hblk := hL.blk h'
        rw [eL] at hblk
        obtain ⟨hsy, hfy, hcy, b', hb', -, c, tt, lo, hi, hcells, hnf, hlen1, hrep⟩ := hblk
        have hlive : (L h').live = true := by rw [eL]; rfl
        -- the array's type
        obtain ⟨t1, ht1⟩ := sub_ty p ty' z _ hfy hsy hsub
        obtain ⟨q, hq, hfq, hsq, hle, hcq⟩ := sub_sound hT p ty' t1 z _ hfy hsy ht1 hsub
        split at hq
        · rename_i m cs
          obtain ⟨harr, hin, hK⟩ := cond_and hq
          rw [ht1] at harr
          simp only [arrOf] at harr
          cases ekt : (T.at t1).kd with
          | array m' e1 =>
            rw [ekt] at harr
            simp only [Nat.beq_eq] at harr
            subst harr
            obtain ⟨hl, hpcs⟩ := hsq
            rw [fits, ekt] at hfq
            simp only [Bool.and_eq_true, Nat.beq_eq] at hfq
            have hnew : ∀ c ∈ splice cs ys j n, pureC c := fun c hc => by
              rcases splice_mem hc with hc | hc
              · exact hpcs c hc
              · exact hpu c hc
            have hfv : fits T t1 (.arr m (splice cs ys j n)) = true := by
              rw [fits, ekt]; simp only [Bool.and_eq_true, Nat.beq_eq]; exact hfq
            have hsv : Shp (.arr m (splice cs ys j n)) := ⟨by rw [splice_length _ _ _ _ hin]; exact hl, hnew⟩
            have hszt : (T.at t1).size = m := by
              have := at_sized hT t1
              rw [sizeOk, ekt] at this
              simp only [Nat.beq_eq] at this
              rw [this, hsz, Nat.mul_one]; exact hfq.1.1.1.symm
            obtain ⟨hf', hs', hcel⟩ := putIn_sound hT hfv hsv p ty' z _ hfy hsy ht1 hsub (fun _ => hnew)
            have hly := flat_length hT ty' z hfy hsy
            obtain ⟨new, n1, n2, n3⟩ := first_cells (P := P) hs hpu (min n ys.length) (Nat.min_le_right _ _)
            have hgo : ∀ w' , (Rep T w' μ ro (.int .i64 ((min ys.length n : Nat) : Int)) (goInt (min n ys.length : Nat))) := fun w' => by rw [Nat.min_comm]; exact .int _ _
            have hsp : ∀ k, (flat (.arr m (splice cs ys j n)))[k]? = if j ≤ k ∧ k < j + min n ys.length then ys[k - j]? else cs[k]? := fun k => splice_get _ _ _ _ _ hin
            have hfin : ∀ (c' : Array Value) (w' : World), Wrote w w' b' c' tt (lo, hi) → c'.size = c.size → (∀ k, c'[k]? = if offAt T ty' p + j ≤ k ∧ k < offAt T ty' p + j + min n ys.length then new.toList[k - (offAt T ty' p + j)]? else c[k]?) → μ h' = some b' →
                Out T hb L μ ro w K (goInt (min n ys.length : Nat)) w' := fun c' w' hw hcs hck hmu => by
              have hkeep := hw.keeps (μ := μ) (hL.apart h' b' hlive hmu) hcells hcs
              refine ⟨.int .i64 _, _, μ, hK, hgo w', ?_, hkeep, hw.chg hlive hmu, fun _ _ => rfl, fun q hq hg => ?_, fun q b' hl hm => .inl ?_⟩
              · refine hw.hrel hL hlive hmu hcells hcs ⟨hs', hf', fits_cells _ _ hf' hs', b', rfl, (fun e => by cases e), c', tt, lo, hi, hw.at_, fun _ => by have := hnf rfl; omega, ?_, fun k pc hk => ?_⟩
                · rw [flat_length hT ty' _ hf' hs', hcs, ← hlen1, hly]
                · rw [hcel k, hszt] at hk
                  rw [hck k]
                  by_cases hin1 : offAt T ty' p ≤ k ∧ k < offAt T ty' p + m
                  · rw [if_pos hin1, hsp] at hk
                    by_cases hin2 : j ≤ k - offAt T ty' p ∧ k - offAt T ty' p < j + min n ys.length
                    · rw [if_pos hin2] at hk
                      rw [if_pos (by omega)]
                      obtain ⟨u, hu, hr, -⟩ := n3 _ pc (by omega) hk
                      refine ⟨u, ?_, hr.keep hkeep⟩
                      rw [show k - (offAt T ty' p + j) = k - offAt T ty' p - j by omega]
                      simpa using hu
                    · rw [if_neg hin2] at hk
                      rw [if_neg (by omega)]
                      obtain ⟨v, hv, hr⟩ := hrep k pc (by
                        have := hcq (k - offAt T ty' p) (by rw [hszt]; omega)
                        rw [show offAt T ty' p + (k - offAt T ty' p) = k by omega] at this
                        rw [← this]; exact hk)
                      exact ⟨v, hv, hr.keep hkeep⟩
                  · rw [if_neg hin1] at hk
                    rw [if_neg (by omega)]
                    obtain ⟨v, hv, hr⟩ := hrep k pc hk
                    exact ⟨v, hv, hr.keep hkeep⟩
              · simp only [upds]; rw [upd_other (by rintro rfl; rw [eL] at hg; cases hg)]; exact hg
              · by_cases eq : q = h'
                · subst eq; exact ⟨q, hlive, hm⟩
                · simp only [upds] at hl; rw [upd_other eq] at hl; exact ⟨q, hl, hm⟩
            rcases hx.sla_inv with ⟨rfl, a', rfl⟩ | ⟨b, cap', hmu, hncap, rfl⟩
            · have hz : min 0 ys.length = 0 := by omega
              rw [hz] at n1
              have hne : new.toList = [] := by simpa using n1
              exact ⟨_, w, hrun a' 0 0 w new n2 (by cases a' with | none => rfl | some a' => rw [hne]; rfl), hfin c w ⟨hcells, fun _ _ => rfl, rfl, rfl, rfl, rfl⟩ rfl (fun k => by rw [if_neg (by omega)]) hb'⟩
            · rw [hb'] at hmu; cases hmu
              have ev : 0 * (T.at ty').size + offAt T ty' p + j * (T.at e1).size = offAt T ty' p + j := by rw [hsz]; omega
              rw [ev]
              obtain ⟨c', w', hst, hw, hcs, hck⟩ := run_storeCells_wrote (P := P) (off := offAt T ty' p + j) new.toList 0 c w hcells (by
                  simp only [Nat.add_zero, Array.length_toList, n1]
                  rw [hszt] at hle
                  omega) (nofr (hnf rfl)) (by
                intro v hv
                obtain ⟨k, hk, rfl⟩ := List.getElem_of_mem hv
                have hk' : k < min n ys.length := by simpa [n1] using hk
                obtain ⟨q, hq, -, ho⟩ := n3 k _ hk' (List.getElem?_eq_getElem (by omega))
                have : new.toList[k]? = some q := by simpa using hq
                rw [List.getElem?_eq_getElem hk] at this
                cases this; exact ho)
              refine ⟨_, w', hrun (some ⟨b', offAt T ty' p + j, none⟩) n cap' w' new n2 hst, hfin c' w' hw hcs (fun k => ?_) hb'⟩
              rw [hck k]
              simp only [Nat.add_zero, Array.length_toList, n1]
          | _ => rw [ekt] at harr; simp at harr
        · exact hq.elim
      · exact h.elim
    · exact h.elim
  · exact h.elim
end
end Pv
