/- The frames twelfth part: append. -/
import Derived.Test.YthdpkcolbgoecaaFw
import Derived.Laws.Append

namespace Pv
open Go

section
variable {P : Program} {T : Tab} {hb : Nat} {w : World} {μ : Nat → Option Nat} {ro : Nat → Prop} {L : Heap} {K : PV → Ups → Prop}

/-- What is appended: how many elements, and their cells, in whatever world that holds the same memory. -/
structure Src (P : Program) (T : Tab) (w : World) (μ : Nat → Option Nat) (ro : Nat → Prop) (e : Nat) (v : Value) (ys : List PV) : Prop where
  row : RowOk T e ys
  len : ∀ w2, (Builtin.lenOf v).run P w2 = .ok ys.length w2
  cells : ∃ new : Array Value, new.size = ys.length * (T.at e).size ∧ (∀ w2 : World, w2.heap = w.heap → (Builtin.firstCells (T.at e).size ys.length v).run P w2 = .ok new w2) ∧
    ∀ (k : Nat) pc, (flats ys)[k]? = some pc → ∃ u, new[k]? = some u ∧ Rep T w μ ro pc u

theorem cell_of_heap {w w2 : World} (h : w2.heap = w.heap) (a : Addr) : w2.cell? a = w.cell? a := by simp only [World.cell?, h]

theorem src_of_shows (hT : tabSized T = true) {e : Nat} {v : Value} {ys : List PV} (h : Shows T w μ ro e v ys) : Src P T w μ ro e v ys := by
  obtain ⟨a, cap, rfl, hcap, hne⟩ := h.val
  have hlen := flats_row_length hT ys h.row
  refine ⟨h.row, fun w2 => rfl, ?_⟩
  by_cases he : ys = []
  · subst he
    refine ⟨#[], by simp, fun w2 _ => ?_, fun k pc hk => by simp [flats] at hk⟩
    cases a <;> simp [Builtin.firstCells, loadCells, loadCellsFrom]
  · obtain ⟨b, off, rfl, hm⟩ := hne he
    have hcell : ∀ k, k < ys.length * (T.at e).size → ∃ u, w.cell? ⟨b, off + k, none⟩ = some u := fun k hk => by
      obtain ⟨u, hu, _⟩ := hm k _ (List.getElem?_eq_getElem (by rw [hlen]; exact hk))
      exact ⟨u, hu⟩
    let f : Nat → Value := fun k => (w.cell? ⟨b, off + k, none⟩).getD default
    have hf : ∀ k, k < ys.length * (T.at e).size → w.cell? ⟨b, off + k, none⟩ = some (f k) := fun k hk => by
      obtain ⟨u, hu⟩ := hcell k hk
      simp only [f, hu, Option.getD_some]
    refine ⟨((List.range (ys.length * (T.at e).size)).map f).toArray, by simp, fun w2 hw => ?_, fun k pc hk => ?_⟩
    · simp only [Builtin.firstCells]
      exact run_loadCells w2 ⟨b, off, none⟩ _ f (fun j hj => by rw [add_none, cell_of_heap hw]; exact hf j hj)
    · have hlt : k < ys.length * (T.at e).size := by rw [← hlen]; exact (List.getElem?_eq_some_iff.1 hk).1
      obtain ⟨u, hu, hr⟩ := hm k pc hk
      have := hf k hlt
      rw [hu] at this
      exact ⟨f k, by simp [hlt], by rw [← Option.some.inj this]; exact hr⟩

theorem src_of_str (hT : tabSized T = true) {e : Nat} (he : (T.at e).kd = .int .u8) (s : ByteArray) : Src P T w μ ro e (.string s) (bytePVs s) := by
  have hp : ∀ c ∈ bytePVs s, pureC c := by simp [bytePVs, pureC]
  have h1 := size_scalar hT (by rw [he]; rfl) (by rw [he]; rfl)
  have hl : (bytePVs s).length = s.size := by simp [bytePVs]
  refine ⟨rowOk_cells (by rw [he]; rfl) (by rw [he]; rfl) hp, fun w2 => by rw [hl]; rfl, ?_⟩
  refine ⟨(s.extract 0 (bytePVs s).length).data.map fun b => .int .u8 b.toNat, ?_, fun w2 _ => rfl, fun k pc hk => ?_⟩
  · rw [h1, hl]; simp
  · rw [flats_cells hp] at hk
    simp only [bytePVs, List.getElem?_map, Option.map_eq_some_iff] at hk
    obtain ⟨b, hbk, rfl⟩ := hk
    refine ⟨.int .u8 b.toNat, ?_, .int _ _⟩
    have hlt : k < s.data.size := by have := (List.getElem?_eq_some_iff.1 hbk).1; simpa using this
    rw [hl]
    simp only [Array.getElem?_map, Option.map_eq_some_iff]
    refine ⟨b, ?_, rfl⟩
    have : (s.extract 0 s.size).data = s.data := by
      have : s.extract 0 s.size = s := by simp
      rw [this]
    rw [this]
    simpa using hbk

/-- What is appended to. -/
structure Dst (P : Program) (T : Tab) (w : World) (μ : Nat → Option Nat) (ro : Nat → Prop) (e : Nat) (base : Option Addr) (cap : Nat) (xs : List PV) : Prop where
  row : RowOk T e xs
  le : xs.length ≤ cap
  cells : ∃ old : Array Value, old.size = xs.length * (T.at e).size ∧ (∀ w2 : World, w2.heap = w.heap → (Builtin.firstCells (T.at e).size xs.length (.slice base xs.length cap)).run P w2 = .ok old w2) ∧
    ∀ (k : Nat) pc, (flats xs)[k]? = some pc → ∃ u, old[k]? = some u ∧ Rep T w μ ro pc u

theorem append_grow (hF : tabFits P T 0 T = true) (hT : tabSized T = true) {t u e : Nat} {base : Option Addr} {cap : Nat} {xs ys : List PV} {vx : Value} (ek : (T.at t).kd = .slice e) (hu : ∃ d, P.underlying u = some d ∧ ∀ k, d ≠ .int k) (hno : (T.at e).kd.isOther = false)
    (hd : Dst P T w μ ro e base cap xs) (hs : Src P T w μ ro e vx ys) (hgt : cap < xs.length + ys.length) (hroom : (xs.length + ys.length) * (T.at e).bytes ≤ maxRoom) (hby : 0 < (T.at e).bytes) (ty : TypeId) :
    ∃ cells cap' w', (Builtin.append_ #[t, u] ty #[.slice base xs.length cap, vx]).run P w = .ok (.slice (some ⟨w.heap.size, 0, none⟩) (xs.length + ys.length) cap') w' ∧ Grew w w' (.cells cells e (0, 0)) ∧
      xs.length + ys.length ≤ cap' ∧ cells.size = cap' * (T.at e).size ∧ ∀ (k : Nat) pc, (flats (xs ++ ys))[k]? = some pc → ∃ v, cells[k]? = some v ∧ Rep T w μ ro pc v := by
  obtain ⟨i1, d1, z1, hi1⟩ := under_of hF ek (by simp)
  obtain ⟨i2, d2, z2, hi2⟩ := tiOk_of hF e (by intro e'; rw [e'] at hno; simp [Kd.isOther] at hno)
  obtain ⟨du, hdu, hdn⟩ := hu
  obtain ⟨old, ho1, ho2, ho3⟩ := hd.cells
  obtain ⟨new, hn1, hn2, hn3⟩ := hs.cells
  have hzs := (rep_cells (w := w) (μ := μ) (ro := ro) hT hi2.zeroFits (zeroEq_rep hi2.zeroEq).1).2.1
  let cap' := grownCap w (xs.length + ys.length) cap e
  have hcap' : xs.length + ys.length ≤ cap' := by simp only [cap', grownCap, Question.cut]; omega
  let w1 : World := { w with drawn := w.drawn + 1 }
  let cells := old ++ new ++ Builtin.zeroCells z2.cells (cap' - (xs.length + ys.length))
  refine ⟨cells, cap', { w1 with heap := w1.heap.push (.cells cells e) }, ?_, ⟨rfl, rfl, rfl, rfl⟩, hcap', ?_, fun k pc hk => ?_⟩
  · have hzer : (match du with | .int _ => true | _ => false) = false := by cases du <;> first | rfl | exact absurd rfl (hdn _)
    have hmr : maxRoom = 70368744177664 := rfl
    have hbytes : (xs.length + ys.length) ≤ maxRoom := by
      have := Nat.le_mul_of_pos_right (xs.length + ys.length) hby
      omega
    have hbig : ¬ Builtin.nextslicecap (xs.length + ys.length) cap * i2.bytes > 2 ^ 48 := by
      rw [hi2.bytes]
      have h1 := nextslicecap_le hgt
      have h2 := Nat.mul_le_mul_right (T.at e).bytes h1
      rw [Nat.mul_assoc] at h2
      omega
    have ha : ∀ (b : Nat) (w : World), (askRoom b).run P w = .ok () w := fun b w => by unfold askRoom; split <;> rfl
    have hch : (choose (.appendCap (xs.length + ys.length) cap e)).run P w = .ok cap' w1 := rfl
    have hz : ∀ w2, (zeroValue e).run P w2 = .ok z2 w2 := fun w2 => hi2.run_zero
    have hlv := hs.len w
    have hti : ∀ w2, (typeInfo e).run P w2 = .ok i2 w2 := fun w2 => by simp [typeInfo, hi2.info]
    have hold := ho2 w1 rfl
    have hnew := hn2 w1 rfl
    have hund : ∀ w2, (underlying u).run P w2 = .ok du w2 := fun w2 => run_underlying hdu w2
    have hmax : IntKind.i64.max = 9223372036854775807 := rfl
    simp only [Builtin.append_, List.getElem?_toArray, List.getElem?_cons_zero, List.getElem?_cons_succ, Sem.run_bind, run_underlying (hi1.kd_slice ek), Result.andThen_ok, hi2.run_sizeOf, hund, Sem.run_pure]
    simp only [Bool.false_eq_true, if_false, Sem.run_bind, hlv, Result.andThen_ok, Bool.not_false, if_true]
    rw [if_neg (by omega)]
    simp only [Sem.run_bind, hti, Result.andThen_ok]
    rw [if_neg (by rintro ⟨h, -⟩; rw [hmax] at h; omega)]
    simp only [Sem.run_bind, hti, Result.andThen_ok]
    rw [if_neg hbig]
    simp only [Sem.run_bind, hch, hti, ha, Result.andThen_ok, hold, hnew, hz, run_newRow, Sem.run_pure]
    rfl
  · simp only [cells, Array.size_append, ho1, hn1, Builtin.zeroCells, Array.size_map, Array.size_range, hzs]
    rw [← Nat.add_mul, ← Nat.add_mul]
    congr 1; omega
  · rw [flats_append] at hk
    have hl1 := flats_row_length hT xs hd.row
    have hl2 := flats_row_length hT ys hs.row
    by_cases hlt : k < (flats xs).length
    · rw [List.getElem?_append_left hlt] at hk
      obtain ⟨v, hv, hr⟩ := ho3 k pc hk
      refine ⟨v, ?_, hr⟩
      simp only [cells]
      rw [Array.getElem?_append_left (by simp only [Array.size_append]; omega), Array.getElem?_append_left (by omega)]
      exact hv
    · rw [List.getElem?_append_right (by omega)] at hk
      obtain ⟨v, hv, hr⟩ := hn3 _ pc hk
      have hlt2 := (List.getElem?_eq_some_iff.1 hk).1
      refine ⟨v, ?_, hr⟩
      simp only [cells]
      rw [Array.getElem?_append_left (by simp only [Array.size_append]; omega), Array.getElem?_append_right (by omega), ho1, ← hl1]
      exact hv


/-- With room. -/
theorem append_room (hF : tabFits P T 0 T = true) {t u e : Nat} {base : Option Addr} {n cap : Nat} {ys : List PV} {vx : Value} {new : Array Value} (ek : (T.at t).kd = .slice e) (hu : ∃ d, P.underlying u = some d ∧ ∀ k, d ≠ .int k) (hno : (T.at e).kd.isOther = false)
    (hlen : (Builtin.lenOf vx).run P w = .ok ys.length w) (hnew : (Builtin.firstCells (T.at e).size ys.length vx).run P w = .ok new w) (hle : n + ys.length ≤ cap) (ty : TypeId) {w' : World}
    (hst : ∀ a, base = some a → (storeCells (a.add (n * (T.at e).size)) new.toList).run P w = .ok () w') (hno' : base = none → w' = w) :
    (Builtin.append_ #[t, u] ty #[.slice base n cap, vx]).run P w = .ok (.slice base (n + ys.length) cap) w' := by
  obtain ⟨i1, d1, z1, hi1⟩ := under_of hF ek (by simp)
  obtain ⟨i2, d2, z2, hi2⟩ := tiOk_of hF e (by intro e'; rw [e'] at hno; simp [Kd.isOther] at hno)
  obtain ⟨du, hdu, hdn⟩ := hu
  have hzer : (match du with | .int _ => true | _ => false) = false := by cases du <;> first | rfl | exact absurd rfl (hdn _)
  have hund : ∀ w2, (underlying u).run P w2 = .ok du w2 := fun w2 => run_underlying hdu w2
  simp only [Builtin.append_, List.getElem?_toArray, List.getElem?_cons_zero, List.getElem?_cons_succ, Sem.run_bind, run_underlying (hi1.kd_slice ek), Result.andThen_ok, hi2.run_sizeOf, hund, Sem.run_pure]
  simp only [Bool.false_eq_true, if_false, Sem.run_bind, hlen, Result.andThen_ok, Bool.not_false, if_true]
  rw [if_pos hle]
  simp only [Sem.run_bind, hnew, Result.andThen_ok]
  cases base with
  | none => rw [hno' rfl]; rfl
  | some a => simp only [Sem.run_bind, hst a rfl, Result.andThen_ok]; rfl

theorem rowOk_append {e : Nat} {xs ys : List PV} (h1 : RowOk T e xs) (h2 : RowOk T e ys) : RowOk T e (xs ++ ys) := fun x hx => by
  rcases List.mem_append.1 hx with h | h
  · exact h1 x h
  · exact h2 x h

theorem gone_upd {h x : Nat} (hg : L x = .gone) : upd L h .gone x = .gone := by
  by_cases e : x = h
  · subst e; exact upd_same _ _ _
  · rw [upd_other e]; exact hg

theorem HRel.drop (hL : HRel T w μ ro L) (h : Nat) : HRel T w μ ro (upd L h .gone) := by
  have live' : ∀ q, (upd L h .gone q).live = true → (L q).live = true := fun q hq => by
    by_cases e : q = h
    · subst e; rw [upd_same] at hq; simp [Blk.live] at hq
    · rwa [upd_other e] at hq
  refine ⟨hL.lt, fun x b hl => hL.apart x b (live' x hl), hL.ro_lt, fun x y b hx hy => hL.inj x y b (live' x hx) (live' y hy), fun x => ?_⟩
  by_cases e : x = h
  · subst e; rw [upd_same]; trivial
  · rw [upd_other e]; exact hL.blk x

theorem Fresh.drop {h : Nat} (hf : Fresh hb μ L) : Fresh hb μ (upd L h .gone) := fun x h1 h2 => ⟨gone_upd (hf x h1 h2).1, (hf x h1 h2).2⟩

/-- From a heap in which a block is forgotten. -/
theorem Out.undrop {h : Nat} {ups0 : Ups} {K : PV → Ups → Prop} {v : Value} {w' : World} (hlow : ∀ x, (hb ≤ x ∧ x < hb + 8) → x ≠ h) (ho : Out T hb (upd L h .gone) μ ro w (fun pv ups => ups = ups0 ∧ K pv ((h, .gone) :: ups)) v w') : Out T hb L μ ro w K v w' := by
  obtain ⟨pv, ups, μ', ⟨rfl, hK⟩, h1, h2, h3, h4, h5, h6, h7⟩ := ho
  have lv : ∀ x, (upd L h .gone x).live = true → (L x).live = true := fun x hx => by
    by_cases e : x = h
    · subst e; rw [upd_same] at hx; simp [Blk.live] at hx
    · rwa [upd_other e] at hx
  refine ⟨pv, (h, .gone) :: ups, μ', hK, h1, h2, h3, ⟨h4.os, h4.tape, h4.output, h4.size, fun b hlt hn => h4.same b hlt (fun x hx => hn x (lv x hx))⟩, h5, fun x hx hg => h6 x hx (gone_upd hg), fun x b hl hm => ?_⟩
  rcases h7 x b hl hm with ⟨y, hy, hm'⟩ | h
  · exact .inl ⟨y, lv y hy, hm'⟩
  · exact .inr h

theorem append_in_place {h b : Nat} {e n cap : Nat} {xs ys : List PV} {c : Array Value} {t : TypeId} {lo hi : Nat} (hT : tabSized T = true) (hL : HRel T w μ ro L) (hf : Fresh hb μ L) (eL : L h = .row true e xs) (hmu : μ h = some b)
    (hcells : w.heap[b]? = some (.cells c t (lo, hi))) (hcap : cap * (T.at e).size ≤ c.size) (hn : n = xs.length) (hle : n + ys.length ≤ cap) (hrow : RowOk T e ys) {new : Array Value} (hnew : new.size = ys.length * (T.at e).size)
    (hrep : ∀ (k : Nat) pc, (flats ys)[k]? = some pc → ∃ u, new[k]? = some u ∧ Rep T w μ ro pc u) (hone : ∀ v ∈ new.toList, oneCell v = true)
    (hK : K (.sl hb e 0 (n + ys.length)) [(h, .gone), (hb, .row true e (xs ++ ys))]) :
    ∃ w', (storeCells ((⟨b, 0 * (T.at e).size, none⟩ : Addr).add (n * (T.at e).size)) new.toList).run P w = .ok () w' ∧ Out T hb L μ ro w K (.slice (some ⟨b, 0 * (T.at e).size, none⟩) (n + ys.length) cap) w' := by
  have hblk := hL.blk h
  rw [eL] at hblk
  obtain ⟨hrx, -, h3⟩ := hblk
  obtain ⟨-, c', t', lo', hi', hcells', hnf, hlen, hreps⟩ := h3 b hmu
  rw [hcells] at hcells'; cases hcells'
  have hlx := flats_row_length hT xs hrx
  have hly := flats_row_length hT ys hrow
  have hle2 : n * (T.at e).size + ys.length * (T.at e).size ≤ c.size := by
    rw [← Nat.add_mul]; exact Nat.le_trans (Nat.mul_le_mul_right _ hle) hcap
  obtain ⟨c2, w', hst, hw, hcs, hck⟩ := run_storeCells_wrote (P := P) (off := 0 * (T.at e).size + n * (T.at e).size) new.toList 0 c w hcells (by simp [hnew]; omega) (nofr (hnf rfl)) hone
  rw [add_none]
  refine ⟨w', hst, ?_⟩
  have hlive : (L h).live = true := by rw [eL]; rfl
  have hro := hL.apart h b hlive hmu
  have hfh := hf hb (Nat.le_refl _) (by omega)
  have hne : h ≠ hb := by rintro rfl; rw [hfh.1] at eL; cases eL
  have hkeep := hw.keeps (μ := μ) hro hcells hcs
  have hkeep' : Keeps μ (muNew μ hb b) ro ro w w' := ⟨fun x y hx => by unfold muNew; rw [if_neg (by rintro rfl; rw [hfh.2] at hx; cases hx)]; exact hx, fun _ h => h, hkeep.same, hkeep.shape⟩
  have hmn : ∀ x, x ≠ hb → muNew μ hb b x = μ x := fun x hx => by unfold muNew; rw [if_neg hx]
  have hmn0 : muNew μ hb b hb = some b := by unfold muNew; rw [if_pos rfl]
  let L' : Heap := upd (upd L h .gone) hb (.row true e (xs ++ ys))
  have hL'hb : L' hb = .row true e (xs ++ ys) := upd_same _ _ _
  have hL'h : L' h = .gone := by simp only [L']; rw [upd_other hne]; exact upd_same _ _ _
  have hL'o : ∀ x, x ≠ h → x ≠ hb → L' x = L x := fun x h1 h2 => by simp only [L']; rw [upd_other h2, upd_other h1]
  have live' : ∀ x, x ≠ hb → (L' x).live = true → (L x).live = true ∧ x ≠ h := fun x hx hl => by
    by_cases e' : x = h
    · subst e'; rw [hL'h] at hl; simp [Blk.live] at hl
    · rw [hL'o x e' hx] at hl; exact ⟨hl, e'⟩
  have hltb : b < w.heap.size := hL.lt h b hmu
  refine ⟨_, _, muNew μ hb b, hK, ?_, ?_, hkeep', hw.chg hlive hmu, fun x hx => hmn x (by omega), fun x hx hg => ?_, fun x y hl hm => .inl ?_⟩
  · exact .sl hb e 0 (n + ys.length) cap b c2 t (lo, hi) hmn0 hle hw.at_ (by rw [hcs, Nat.zero_add]; exact hcap)
  · show HRel T w' (muNew μ hb b) ro L'
    refine ⟨fun x y hx => ?_, fun x y hl hx => ?_, fun y hy => by rw [hw.size]; exact hL.ro_lt y hy, fun x y z hlx hly' hx hy => ?_, fun x => ?_⟩
    · rw [hw.size]
      by_cases e' : x = hb
      · subst e'; rw [hmn0] at hx; cases hx; exact hltb
      · rw [hmn x e'] at hx; exact hL.lt x y hx
    · by_cases e' : x = hb
      · subst e'; rw [hmn0] at hx; cases hx; exact hro
      · rw [hmn x e'] at hx; exact hL.apart x y (live' x e' hl).1 hx
    · by_cases e1 : x = hb <;> by_cases e2 : y = hb
      · rw [e1, e2]
      · subst e1; rw [hmn0] at hx; cases hx
        rw [hmn y e2] at hy
        exact absurd (hL.inj y h _ (live' y e2 hly').1 hlive hy hmu) (live' y e2 hly').2
      · subst e2; rw [hmn0] at hy; cases hy
        rw [hmn x e1] at hx
        exact absurd (hL.inj x h _ (live' x e1 hlx).1 hlive hx hmu) (live' x e1 hlx).2
      · rw [hmn x e1] at hx; rw [hmn y e2] at hy
        exact hL.inj x y z (live' x e1 hlx).1 (live' y e2 hly').1 hx hy
    · by_cases e1 : x = hb
      · subst e1
        rw [hmn0, hL'hb]
        refine ⟨rowOk_append hrx hrow, (fun e => by cases e), fun b' hb' => ?_⟩
        cases hb'
        refine ⟨(fun e => by cases e), c2, t, lo, hi, hw.at_, fun _ => by have := hnf rfl; omega, by rw [flats_append, List.length_append, hlx, hly, hcs, ← hn]; exact hle2, fun k pc hk => ?_⟩
        rw [flats_append] at hk
        rw [hck k]
        simp only [Nat.zero_mul, Nat.zero_add, Nat.add_zero, Array.length_toList, hnew]
        by_cases hlt : k < (flats xs).length
        · rw [List.getElem?_append_left hlt] at hk
          rw [if_neg (by rw [hn]; omega)]
          obtain ⟨v, hv, hr⟩ := hreps k pc hk
          exact ⟨v, hv, hr.keep hkeep'⟩
        · rw [List.getElem?_append_right (by omega)] at hk
          have hlt2 := (List.getElem?_eq_some_iff.1 hk).1
          obtain ⟨v, hv, hr⟩ := hrep _ pc hk
          rw [if_pos (by rw [hn]; omega)]
          refine ⟨v, ?_, hr.keep hkeep'⟩
          rw [hn, ← hlx]
          simpa using hv
      · rw [hmn x e1]
        by_cases e2 : x = h
        · subst e2; rw [hL'h]; trivial
        · rw [hL'o x e2 e1]
          have hbx := hL.blk x
          by_cases hbb : μ x = some b
          · rw [hbb] at hbx ⊢
            cases hLx : L x with
            | gone => trivial
            | row l ty zs =>
              rw [hLx] at hbx
              cases l with
              | true => exact absurd (hL.inj x h b (by rw [hLx]; rfl) hlive hbb hmu) e2
              | false => exact absurd ((hbx.2.2 b rfl).1 rfl) hro
            | box l ty y =>
              rw [hLx] at hbx
              cases l with
              | true => exact absurd (hL.inj x h b (by rw [hLx]; rfl) hlive hbb hmu) e2
              | false => obtain ⟨-, -, -, b', e3, h2, -⟩ := hbx; cases e3; exact absurd (h2 rfl) hro
            | map l kt et en =>
              rw [hLx] at hbx
              cases l with
              | true => exact absurd (hL.inj x h b (by rw [hLx]; rfl) hlive hbb hmu) e2
              | false => obtain ⟨-, b', e3, h2, -⟩ := hbx; cases e3; exact absurd (h2 rfl) hro
            | iter l kt et rest cur =>
              rw [hLx] at hbx
              cases l with
              | true => exact absurd (hL.inj x h b (by rw [hLx]; rfl) hlive hbb hmu) e2
              | false => obtain ⟨-, b', e3, h2, -⟩ := hbx; cases e3; exact absurd (h2 rfl) hro
          · exact hbx.keep hkeep' (fun y hy => hw.other y (fun e => hbb (e ▸ hy)))
  · show L' x = .gone
    by_cases e2 : x = h
    · subst e2; exact hL'h
    · rw [hL'o x e2 (by omega)]; exact hg
  · by_cases e1 : x = hb
    · subst e1; rw [hmn0] at hm; cases hm; exact ⟨h, hlive, hmu⟩
    · rw [hmn x e1] at hm
      exact ⟨x, (live' x e1 hl).1, hm⟩

end
end Pv
