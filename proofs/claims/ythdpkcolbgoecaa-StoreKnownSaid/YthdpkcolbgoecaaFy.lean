/- The frames thirteenth part: append, whole; each operation. -/
import Derived.Test.YthdpkcolbgoecaaFx

namespace Pv
open Go

section
variable {P : Program} {T : Tab} {hb : Nat} {w : World} {μ : Nat → Option Nat} {ro : Nat → Prop} {L : Heap} {K : PV → Ups → Prop}

theorem dst_empty {e : Nat} (a : Option Addr) (cap : Nat) : Dst P T w μ ro e a cap [] := by
  refine ⟨fun _ h => by simp at h, Nat.zero_le _, #[], by simp, fun w2 _ => ?_, fun k pc hk => by simp [flats] at hk⟩
  cases a <;> simp [Builtin.firstCells, loadCells, loadCellsFrom]

theorem own_none {k : Blk} (hm : μ hb = none) : Own μ μ L (upds L [(hb, k)]) w := by
  intro h b hl hm'
  by_cases e : h = hb
  · subst e; rw [hm] at hm'; cases hm'
  · simp only [upds] at hl; rw [upd_other e] at hl; exact .inl ⟨h, hl, hm'⟩

theorem out_grown {w' : World} {h : Nat} {e cap' : Nat} {zs : List PV} {cells : Array Value} (hg : Grew w w' (.cells cells e (0, 0))) (hT : tabSized T = true) (hL : HRel T w μ ro L) (hf : Fresh hb μ L) (hrow : RowOk T e zs)
    (hle : zs.length ≤ cap') (hsz : cells.size = cap' * (T.at e).size) (hrep : ∀ (k : Nat) pc, (flats zs)[k]? = some pc → ∃ v, cells[k]? = some v ∧ Rep T w μ ro pc v) (hh : L h ≠ .gone) (hK : K (.sl hb e 0 zs.length) [(h, .gone), (hb, .row true e zs)]) :
    Out T hb L μ ro w K (.slice (some ⟨w.heap.size, 0, none⟩) zs.length cap') w' := by
  refine Out.undrop (h := h) (ups0 := [(hb, .row true e zs)]) (fun x hx => by rintro rfl; exact hh (hf x hx.1 hx.2).1) ?_
  exact out_row hg (hL.drop h) hf.drop hrow (by rw [flats_row_length hT zs hrow, hsz]; exact Nat.mul_le_mul_right _ hle) hrep (.inl rfl) hle (by rw [hsz]; exact Nat.le_refl _) ⟨rfl, hK⟩

/-- What is appended: its cells, and what append does with them. -/
structure Feed (P : Program) (T : Tab) (w : World) (μ : Nat → Option Nat) (ro : Nat → Prop) (t u e : Nat) (vx : Value) (ys : List PV) (ty : TypeId) (new : Array Value) : Prop where
  row : RowOk T e ys
  size : new.size = ys.length * (T.at e).size
  rep : ∀ (k : Nat) pc, (flats ys)[k]? = some pc → ∃ u, new[k]? = some u ∧ Rep T w μ ro pc u
  room : ∀ {base : Option Addr} {n cap : Nat} {w' : World}, n + ys.length ≤ cap → (∀ a, base = some a → (storeCells (a.add (n * (T.at e).size)) new.toList).run P w = .ok () w') → (base = none → w' = w) →
    (Builtin.append_ #[t, u] ty #[.slice base n cap, vx]).run P w = .ok (.slice base (n + ys.length) cap) w'
  grow : ∀ {base : Option Addr} {cap : Nat} {xs : List PV}, Dst P T w μ ro e base cap xs → cap < xs.length + ys.length → (xs.length + ys.length) * (T.at e).bytes ≤ maxRoom →
    ∃ cells cap' w', (Builtin.append_ #[t, u] ty #[.slice base xs.length cap, vx]).run P w = .ok (.slice (some ⟨w.heap.size, 0, none⟩) (xs.length + ys.length) cap') w' ∧ Grew w w' (.cells cells e (0, 0)) ∧
      xs.length + ys.length ≤ cap' ∧ cells.size = cap' * (T.at e).size ∧ ∀ (k : Nat) pc, (flats (xs ++ ys))[k]? = some pc → ∃ v, cells[k]? = some v ∧ Rep T w μ ro pc v

theorem feed_src (hF : tabFits P T 0 T = true) (hT : tabSized T = true) {t u e : Nat} {ys : List PV} {vx : Value} (ek : (T.at t).kd = .slice e) (hu : ∃ d, P.underlying u = some d ∧ ∀ k, d ≠ .int k) (hno : (T.at e).kd.isOther = false) (hby : 0 < (T.at e).bytes)
    (hs : Src P T w μ ro e vx ys) (ty : TypeId) : ∃ new, Feed P T w μ ro t u e vx ys ty new := by
  obtain ⟨new, hn1, hn2, hn3⟩ := hs.cells
  exact ⟨new, hs.row, hn1, hn3, fun hle hst hn => append_room hF ek hu hno (hs.len w) (hn2 w rfl) hle ty hst hn, fun hd hgt hroom => append_grow hF hT ek hu hno hd hs hgt hroom hby ty⟩

theorem feed_zeros (hF : tabFits P T 0 T = true) (hT : tabSized T = true) {t u e : Nat} {k ku : IntKind} {n : Int} (ek : (T.at t).kd = .slice e) (hu : P.underlying u = some (.int ku)) (hno : (T.at e).kd.isOther = false) (hby : 0 < (T.at e).bytes)
    (h0 : 0 ≤ n) (hroom0 : n.toNat * (T.at e).bytes ≤ maxRoom) (ty : TypeId) : ∃ new, Feed P T w μ ro t u e (.int k n) (List.replicate n.toNat (T.at e).zero) ty new := by
  obtain ⟨i1, d1, z1, hi1⟩ := under_of hF ek (by simp)
  obtain ⟨i2, d2, z2, hi2⟩ := tiOk_of hF e (by intro e'; rw [e'] at hno; simp [Kd.isOther] at hno)
  obtain ⟨hzr, hzs, hzp⟩ := zeroEq_rep (T := T) (w := w) (μ := μ) (ro := ro) hi2.zeroEq
  obtain ⟨-, hzz, hzc⟩ := rep_cells (w := w) (μ := μ) (ro := ro) hT hi2.zeroFits hzr
  have hmr : maxRoom = 70368744177664 := rfl
  have hnle : n.toNat ≤ maxRoom := Nat.le_trans (Nat.le_mul_of_pos_right _ hby) hroom0
  have hwr : IntKind.i64.wrap n = n := by
    have h1 : n ≤ 70368744177664 := by omega
    have h2 : n % 2 ^ 64 = n := Int.emod_eq_of_lt h0 (by omega)
    have e1 : IntKind.i64.bits = 64 := rfl
    have e2 : IntKind.i64.signed = true := rfl
    simp only [IntKind.wrap, e1, e2, h2]
    rw [if_neg (by simp only [Bool.true_and, decide_eq_true_eq, Int.not_le]; omega)]
  have hrow : RowOk T e (List.replicate n.toNat (T.at e).zero) := fun x hx => by rw [List.eq_of_mem_replicate hx]; exact ⟨hzs, hi2.zeroFits, hzp⟩
  have hly := flats_row_length hT _ hrow
  rw [List.length_replicate] at hly
  have hrepz : ∀ (j : Nat) pc, (flats (List.replicate n.toNat (T.at e).zero))[j]? = some pc → ∃ q, (Builtin.zeroCells z2.cells n.toNat)[j]? = some q ∧ Rep T w μ ro pc q := fun j pc hk => by
    have hlt := (List.getElem?_eq_some_iff.1 hk).1
    rw [hly] at hlt
    rw [flats_replicate hT hzs hi2.zeroFits hzp n.toNat j hlt] at hk
    obtain ⟨q, hq, hr, -⟩ := hzc _ pc hk
    refine ⟨q, ?_, hr⟩
    unfold Builtin.zeroCells
    rw [Array.getElem?_map, Array.getElem?_range, if_pos (by rw [hzz]; exact hlt), Option.map_some]
    rw [hzz]
    have hpos : 0 < (T.at e).size := by rcases Nat.eq_zero_or_pos (T.at e).size with e' | e'; · rw [e'] at hlt; simp at hlt
                                        · exact e'
    have hm : j % (T.at e).size < z2.cells.size := by rw [hzz]; exact Nat.mod_lt _ hpos
    rw [getElem!_pos z2.cells _ hm]
    rw [Array.getElem?_eq_getElem hm] at hq
    exact hq
  have hsz : (Builtin.zeroCells z2.cells n.toNat).size = n.toNat * (T.at e).size := by
    simp [Builtin.zeroCells, hzz]
  have hti : ∀ w2, (typeInfo e).run P w2 = .ok i2 w2 := fun w2 => by simp [typeInfo, hi2.info]
  have hz : ∀ w2, (zeroValue e).run P w2 = .ok z2 w2 := fun w2 => hi2.run_zero
  have hund : ∀ w2, (underlying u).run P w2 = .ok (.int ku) w2 := fun w2 => run_underlying hu w2
  have has : ∀ w2, (asInt (.int k n)).run P w2 = .ok n w2 := fun w2 => rfl
  have hbb : ¬ (n * (i2.bytes : Int) > 2 ^ 48) := by
    rw [hi2.bytes]
    have : ((n.toNat * (T.at e).bytes : Nat) : Int) = n * ((T.at e).bytes : Int) := by rw [Int.natCast_mul, Int.toNat_of_nonneg h0]
    omega
  have happ : ∀ w2 : World, (if n.toNat * (T.at e).size = 0 then pure #[] else (do pure (Builtin.zeroCells (← zeroValue e).cells n.toNat)) : Sem (Array Value)).run P w2 = .ok (Builtin.zeroCells z2.cells n.toNat) w2 := fun w2 => by
    split
    · rename_i h
      have : Builtin.zeroCells z2.cells n.toNat = #[] := Array.eq_empty_of_size_eq_zero (by rw [hsz, h])
      rw [this]; rfl
    · simp [hz w2]
  refine ⟨Builtin.zeroCells z2.cells n.toNat, hrow, by rw [List.length_replicate]; exact hsz, hrepz, ?_, ?_⟩
  · intro base m cap w' hle hst hno'
    rw [List.length_replicate] at hle ⊢
    simp only [Builtin.append_, List.getElem?_toArray, List.getElem?_cons_zero, List.getElem?_cons_succ, Sem.run_bind, run_underlying (hi1.kd_slice ek), Result.andThen_ok, hi2.run_sizeOf, hund, Sem.run_pure]
    simp only [if_true, Sem.run_bind, has, Result.andThen_ok, hwr]
    rw [if_neg (by omega)]
    simp only [Sem.run_bind, hti, Result.andThen_ok]
    rw [if_neg hbb]
    simp only [Sem.run_bind, Sem.run_pure, Result.andThen_ok]
    rw [if_pos hle]
    simp only [Bool.not_true, Bool.false_eq_true, if_false, Sem.run_bind]
    rw [happ]
    simp only [Result.andThen_ok]
    cases base with
    | none => rw [hno' rfl]; rfl
    | some a => simp only [Sem.run_bind, hst a rfl, Result.andThen_ok]; rfl
  · intro base cap xs hd hgt hroom
    rw [List.length_replicate] at hgt hroom ⊢
    obtain ⟨old, ho1, ho2, ho3⟩ := hd.cells
    let cap' := grownCap w (xs.length + n.toNat) cap e
    have hcap' : xs.length + n.toNat ≤ cap' := by simp only [cap', grownCap, Question.cut]; omega
    let w1 : World := { w with drawn := w.drawn + 1 }
    let cells := old ++ Builtin.zeroCells z2.cells n.toNat ++ Builtin.zeroCells z2.cells (cap' - (xs.length + n.toNat))
    refine ⟨cells, cap', { w1 with heap := w1.heap.push (.cells cells e) }, ?_, ⟨rfl, rfl, rfl, rfl⟩, hcap', ?_, fun j pc hk => ?_⟩
    · have hbig : ¬ Builtin.nextslicecap (xs.length + n.toNat) cap * i2.bytes > 2 ^ 48 := by
        rw [hi2.bytes]
        have h1 := nextslicecap_le hgt
        have h2 := Nat.mul_le_mul_right (T.at e).bytes h1
        rw [Nat.mul_assoc] at h2
        omega
      have hbytes : (xs.length + n.toNat) ≤ maxRoom := by
        have := Nat.le_mul_of_pos_right (xs.length + n.toNat) hby
        omega
      have ha : ∀ (b : Nat) (w : World), (askRoom b).run P w = .ok () w := fun b w => by unfold askRoom; split <;> rfl
      have hch : (choose (.appendCap (xs.length + n.toNat) cap e)).run P w = .ok cap' w1 := rfl
      have hold := ho2 w1 rfl
      have hmax : IntKind.i64.max = 9223372036854775807 := rfl
      simp only [Builtin.append_, List.getElem?_toArray, List.getElem?_cons_zero, List.getElem?_cons_succ, Sem.run_bind, run_underlying (hi1.kd_slice ek), Result.andThen_ok, hi2.run_sizeOf, hund, Sem.run_pure]
      simp only [if_true, Sem.run_bind, has, Result.andThen_ok, hwr]
      rw [if_neg (by omega)]
      simp only [Sem.run_bind, hti, Result.andThen_ok]
      rw [if_neg hbb]
      simp only [Sem.run_bind, Sem.run_pure, Result.andThen_ok]
      rw [if_neg (by omega)]
      simp only [Sem.run_bind, hti, Result.andThen_ok]
      rw [if_neg (by rintro ⟨h, -⟩; rw [hmax] at h; omega)]
      simp only [Sem.run_bind, hti, Result.andThen_ok]
      rw [if_neg hbig]
      simp only [Sem.run_bind, hch, hti, ha, Result.andThen_ok, hold, Bool.not_true, Bool.false_eq_true, if_false]
      rw [happ]
      simp only [Result.andThen_ok, hz, Sem.run_bind, run_newRow, Sem.run_pure]
      rfl
    · simp only [cells, Array.size_append, ho1, hsz, Builtin.zeroCells, Array.size_map, Array.size_range, hzz]
      rw [← Nat.add_mul, ← Nat.add_mul]
      congr 1; omega
    · rw [flats_append] at hk
      have hl1 := flats_row_length hT xs hd.row
      by_cases hlt : j < (flats xs).length
      · rw [List.getElem?_append_left hlt] at hk
        obtain ⟨v, hv, hr⟩ := ho3 j pc hk
        refine ⟨v, ?_, hr⟩
        simp only [cells]
        rw [Array.getElem?_append_left (by simp only [Array.size_append]; omega), Array.getElem?_append_left (by omega)]
        exact hv
      · rw [List.getElem?_append_right (by omega)] at hk
        obtain ⟨v, hv, hr⟩ := hrepz _ pc hk
        have hlt2 := (List.getElem?_eq_some_iff.1 hk).1
        refine ⟨v, ?_, hr⟩
        simp only [cells]
        rw [Array.getElem?_append_left (by simp only [Array.size_append]; omega), Array.getElem?_append_right (by omega), ho1, ← hl1]
        exact hv

theorem evAppendTo_sound (hT : tabSized T = true) {t u e : Nat} {a : PV} {ys : List PV} {va vx : Value} {new : Array Value}
    (h : evAppendTo hb L e (T.at e).bytes a ys K) (ha : Rep T w μ ro a va) (hL : HRel T w μ ro L) (hf : Fresh hb μ L) {ty : TypeId} (hs : Feed P T w μ ro t u e vx ys ty new) :
    ∃ r w', (Builtin.append_ #[t, u] ty #[va, vx]).run P w = .ok r w' ∧ Out T hb L μ ro w K r w' := by
  have hn1 := hs.size
  have hn3 := hs.rep
  have hly := flats_row_length hT ys hs.row
  have hone : ∀ v ∈ new.toList, oneCell v = true := by
    intro v hv
    obtain ⟨k, hk, rfl⟩ := List.getElem_of_mem hv
    have hk' : k < (flats ys).length := by rw [hly, ← hn1]; simpa using hk
    obtain ⟨u, hu1, hr⟩ := hn3 k _ (List.getElem?_eq_getElem hk')
    have key : ∀ q ∈ flats ys, cellC q = true := by
      intro q hm2
      rw [flats_eq, List.mem_flatMap] at hm2
      obtain ⟨y, hy, hcy⟩ := hm2
      exact cellC_of_pureC ((hs.row y hy).2.2 _ hcy)
    have hc := key _ (List.getElem_mem hk')
    have : new.toList[k]? = some u := by simpa using hu1
    rw [List.getElem?_eq_getElem hk] at this
    cases this
    exact hr.one hc
  unfold evAppendTo at h
  split at h
  · rename_i h' e' i n
    split at h
    · rename_i e'' xs eL
      obtain ⟨hc, hn, hroom, hK⟩ := cond_and h
      simp only [Bool.and_eq_true, Nat.beq_eq] at hc
      obtain ⟨⟨rfl, rfl⟩, rfl⟩ := hc
      have hblk := hL.blk h'
      rw [eL] at hblk
      obtain ⟨hrx, hnone, h3⟩ := hblk
      have hlx := flats_row_length hT xs hrx
      have hgone : L h' ≠ .gone := by rw [eL]; intro e; cases e
      rcases ha.sl_inv with ⟨rfl, a, rfl⟩ | ⟨b, cap, c, t', fr, hmu, hcap, hcells, hsz, rfl⟩
      · have hxs : xs = [] := List.length_eq_zero_iff.1 hn.symm
        subst hxs
        by_cases hy : ys = []
        · -- nothing to nothing
          subst hy
          refine ⟨_, w, hs.room (by simp) (w' := w) (fun a _ => ?_) (fun _ => rfl), ?_⟩
          · have : new = #[] := by apply Array.eq_empty_of_size_eq_zero; rw [hn1]; simp
            rw [this]; rfl
          · refine Out.undrop (h := h') (ups0 := [(hb, .row true e'' [])]) (fun x hx => by rintro rfl; exact hgone (hf x hx.1 hx.2).1) ?_
            have hfr := hf hb (Nat.le_refl _) (by omega)
            have hL2 := hL.drop h'
            refine ⟨_, _, μ, ⟨rfl, hK⟩, .slE hb e'' 0 a, ?_, Keeps.refl _ _ _, Chg.refl _ _ _, fun _ _ => rfl, fun x hx hg => ?_, own_none hfr.2⟩
            · refine ⟨hL2.lt, fun x b hl hx => ?_, hL2.ro_lt, fun x y b hlx hly2 hx hy => ?_, fun x => ?_⟩
              · by_cases e : x = hb
                · subst e; rw [hfr.2] at hx; cases hx
                · exact hL2.apart x b (by rw [show upds (upd L h' .gone) [(hb, .row true e'' [])] = upd (upd L h' .gone) hb (.row true e'' []) from rfl, upd_other e] at hl; exact hl) hx
              · by_cases e : x = hb
                · subst e; rw [hfr.2] at hx; cases hx
                · by_cases e2 : y = hb
                  · subst e2; rw [hfr.2] at hy; cases hy
                  · have q1 : upds (upd L h' .gone) [(hb, .row true e'' [])] = upd (upd L h' .gone) hb (.row true e'' []) := rfl
                    rw [q1, upd_other e] at hlx
                    rw [q1, upd_other e2] at hly2
                    exact hL2.inj x y b hlx hly2 hx hy
              · have q1 : upds (upd L h' .gone) [(hb, .row true e'' [])] = upd (upd L h' .gone) hb (.row true e'' []) := rfl
                rw [q1]
                by_cases e : x = hb
                · subst e; rw [upd_same, hfr.2]
                  exact ⟨fun _ h => by simp at h, fun _ => rfl, fun b hb' => by cases hb'⟩
                · rw [upd_other e]; exact hL2.blk x
            · show upd (upd L h' .gone) hb _ x = .gone
              rw [upd_other (by omega)]; exact hg
        · have hpos : 0 < ys.length := by rcases ys with _ | _; · exact absurd rfl hy
                                          · simp
          obtain ⟨cells, cap', w', hrun, hgrew, hle, hsz, hrep⟩ := hs.grow (base := a) (cap := 0) (dst_empty (P := P) (T := T) (w := w) (μ := μ) (ro := ro) (e := e'') a 0) (by simpa using hpos) (by simpa using hroom)
          simp only [List.length_nil, Nat.zero_add, List.nil_append] at hrun hle hrep
          exact ⟨_, w', hrun, out_grown hgrew hT hL hf hs.row hle hsz hrep hgone (by simpa using hK)⟩
      · obtain ⟨-, c', t'', lo, hi, hcells', hnf, hlen, hreps⟩ := h3 b hmu
        rw [hcells] at hcells'; cases hcells'
        by_cases hle : n + ys.length ≤ cap
        · obtain ⟨w', hst, hout⟩ := append_in_place (P := P) (cap := cap) hT hL hf eL hmu hcells (by simpa using hsz) hn hle hs.row hn1 hn3 hone hK
          exact ⟨_, w', hs.room hle (fun a e => by cases e; exact hst) (fun e => by cases e), hout⟩
        · subst hn
          have hd : Dst P T w μ ro e'' (some ⟨b, 0 * (T.at e'').size, none⟩) cap xs := by
            have hxe : xs.length ≤ cap := hcap
            refine ⟨hrx, hcap, c.extract 0 (xs.length * (T.at e'').size), by simp; rw [← hlx]; omega, fun w2 hw2 => ?_, fun k pc hk => ?_⟩
            · simp only [Builtin.firstCells]
              have := run_loadCells (P := P) w2 ⟨b, 0 * (T.at e'').size, none⟩ (xs.length * (T.at e'').size) (fun k => c[k]?.getD default) (fun j hj => by
                rw [add_none, cell_of_heap hw2]
                simp only [World.cell?, hcells]
                have : j < c.size := by omega
                simp [this])
              rw [this]
              congr 1
              apply Array.ext_getElem?
              intro k
              by_cases hk : k < xs.length * (T.at e'').size
              · have : k < c.size := by omega
                rw [Array.getElem?_extract, if_pos (by omega)]
                simp [hk, this]
              · rw [Array.getElem?_extract, if_neg (by omega)]
                simp [hk]
            · have hlt := (List.getElem?_eq_some_iff.1 hk).1
              obtain ⟨v, hv, hr⟩ := hreps k pc hk
              refine ⟨v, ?_, hr⟩
              rw [Array.getElem?_extract]
              rw [if_pos (by omega)]
              simpa using hv
          obtain ⟨cells, cap', w', hrun, hgrew, hle2, hsz2, hrep⟩ := hs.grow hd (by omega) hroom
          refine ⟨_, w', hrun, ?_⟩
          have := out_grown (h := h') (zs := xs ++ ys) hgrew hT hL hf (rowOk_append hrx hs.row) (by simpa using hle2) hsz2 hrep hgone (by simpa using hK)
          simpa using this
    · exact h.elim
  · obtain ⟨hroom, hK⟩ := h
    obtain rfl := ha.nilsl_inv
    by_cases hy : ys = []
    · subst hy
      refine ⟨_, w, hs.room (by simp) (w' := w) (fun a e => by cases e) (fun _ => rfl), ?_⟩
      have hfr := hf hb (Nat.le_refl _) (by omega)
      have q1 : upds L [(hb, .row true e [])] = upd L hb (.row true e []) := rfl
      refine ⟨_, _, μ, hK, .slE hb e 0 none, ?_, Keeps.refl _ _ _, Chg.refl _ _ _, fun _ _ => rfl, fun x hx hg => ?_, own_none hfr.2⟩
      · rw [q1]
        refine ⟨hL.lt, fun x b hl hx => ?_, hL.ro_lt, fun x y b hlx hly2 hx hy => ?_, fun x => ?_⟩
        · by_cases e : x = hb
          · subst e; rw [hfr.2] at hx; cases hx
          · rw [upd_other e] at hl; exact hL.apart x b hl hx
        · by_cases e : x = hb
          · subst e; rw [hfr.2] at hx; cases hx
          · by_cases e2 : y = hb
            · subst e2; rw [hfr.2] at hy; cases hy
            · rw [upd_other e] at hlx; rw [upd_other e2] at hly2; exact hL.inj x y b hlx hly2 hx hy
        · by_cases e : x = hb
          · subst e; rw [upd_same, hfr.2]
            exact ⟨fun _ h => by simp at h, fun _ => rfl, fun b hb' => by cases hb'⟩
          · rw [upd_other e]; exact hL.blk x
      · rw [q1, upd_other (by omega)]; exact hg
    · have hpos : 0 < ys.length := by rcases ys with _ | _; · exact absurd rfl hy
                                      · simp
      obtain ⟨cells, cap', w', hrun, hgrew, hle, hsz, hrep⟩ := hs.grow (base := none) (cap := 0) (dst_empty (P := P) (T := T) (w := w) (μ := μ) (ro := ro) (e := e) none 0) (by simpa using hpos) (by simpa using hroom)
      simp only [List.length_nil, Nat.zero_add, List.nil_append] at hrun hle hrep
      refine ⟨_, w', hrun, ?_⟩
      exact out_row hgrew hL hf hs.row (by rw [hly, hsz]; exact Nat.mul_le_mul_right _ hle) hrep (.inl rfl) hle (by rw [hsz]; exact Nat.le_refl _) hK
  · exact h.elim

end
end Pv
