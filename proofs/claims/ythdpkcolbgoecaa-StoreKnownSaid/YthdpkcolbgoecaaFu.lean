/- The frames tenth part: make; conversions between strings and bytes. -/
import Derived.Test.YthdpkcolbgoecaaFs

namespace Pv
open Go

theorem bytesOf_ints : ∀ (ys : List PV) (l : List UInt8), bytesOf ys = some l → ∃ ns : List Int, ys = ns.map (PV.int .u8) ∧ l = ns.map fun n => UInt8.ofNat n.toNat
  | [], l, h => by simp [bytesOf] at h; exact ⟨[], rfl, by simp [h]⟩
  | y :: r, l, h => by
    unfold bytesOf at h
    split at h
    · rename_i e; cases e
    · rename_i n r' e
      cases e
      simp only [Option.map_eq_some_iff] at h
      obtain ⟨l', h1, rfl⟩ := h
      obtain ⟨ns, rfl, rfl⟩ := bytesOf_ints r l' h1
      exact ⟨n :: ns, rfl, rfl⟩
    · simp at h

theorem foldl_push_bytes : ∀ (ns : List Int) (s : ByteArray), ns.foldl (fun r n => r.push (UInt8.ofNat n.toNat)) s = ⟨s.data ++ (ns.map fun n => UInt8.ofNat n.toNat).toArray⟩
  | [], s => by cases s; simp
  | n :: ns, s => by
    rw [List.foldl_cons, foldl_push_bytes ns]
    cases s
    simp [ByteArray.push]

section
variable {P : Program} {T : Tab} {hb : Nat} {w : World} {μ : Nat → Option Nat} {ro : Nat → Prop} {L : Heap} {K : PV → Ups → Prop}

theorem bytes_to_string (hT : tabSized T = true) {e : Nat} {v : Value} {ys : List PV} {K : PV → Prop} (he : (T.at e).kd = .int .u8) (hs : Shows T w μ ro e v ys) (h : asBytesK ys fun s => K (.str s)) :
    ∃ r, (Conv.bytesToString v).run P w = .ok r w ∧ ∃ pv, K pv ∧ Rep T w μ ro pv r := by
  unfold asBytesK at h
  split at h
  · rename_i l hl
    obtain ⟨ns, rfl, rfl⟩ := bytesOf_ints ys _ hl
    obtain ⟨a, cap, rfl, hcap, hne⟩ := hs.val
    have hflats : flats (ns.map (PV.int .u8)) = ns.map (PV.int .u8) := flats_cells (by simp [pureC])
    cases a with
    | none =>
      have : ns = [] := by
        rcases ns with _ | ⟨n, ns⟩
        · rfl
        · obtain ⟨b, off, h1, -⟩ := hne (by simp); cases h1
      subst this
      exact ⟨_, rfl, _, h, .str _⟩
    | some a =>
      have hload : (loadCells a (ns.map (PV.int .u8)).length).run P w = .ok (ns.map (Value.int .u8)).toArray w := by
        have := run_loadCells_list (P := P) w a (ns.map (Value.int .u8)) (fun j v hj => by
          simp only [List.getElem?_map, Option.map_eq_some_iff] at hj
          obtain ⟨n, hn, rfl⟩ := hj
          obtain ⟨b, off, h1, hm⟩ := hne (by intro e; simp at e; subst e; simp at hn)
          cases h1
          obtain ⟨v, hv, hr⟩ := hm j (.int .u8 n) (by rw [hflats]; simp [hn])
          rw [hr.int_inv] at hv
          rw [add_none]; exact hv)
        simpa using this
      refine ⟨_, run_bytesToString w a _ cap ns hload, _, h, ?_⟩
      rw [foldl_push_bytes]
      have : (ByteArray.empty.data ++ (ns.map fun n => UInt8.ofNat n.toNat).toArray) = (ns.map fun n => UInt8.ofNat n.toNat).toArray := by
        show (#[] : Array UInt8) ++ _ = _
        simp
      rw [this]
      exact .str _
  · exact h.elim

theorem convert_bytes {src dst e : Nat} {v : Value} (hs : P.underlying src = some (.slice e)) (hd : P.underlying dst = some .string) (he : P.underlying e = some (.int .u8)) (hv : ∃ a n c, v = .slice a n c) :
    (convert src dst v).run P w = (Conv.bytesToString v).run P w := by
  obtain ⟨a, n, c, rfl⟩ := hv
  simp [convert, run_underlying hs, run_underlying hd, run_underlying he]

theorem convert_sound (hF : tabFits P T 0 T = true) (hT : tabSized T = true) {src dst : Nat} {x : PV} {v : Value} (h : evConv T hb L src dst x K) (hx : Rep T w μ ro x v) (hL : HRel T w μ ro L) (hfr : Fresh hb μ L) :
    ∃ r w', (convert src dst v).run P w = .ok r w' ∧ Out T hb L μ ro w K r w' := by
  unfold evConv at h
  split at h
  · rename_i k' k k'' n e1 e2
    obtain ⟨i1, d1, z1, hi1⟩ := under_of hF e1 (by simp)
    obtain ⟨i2, d2, z2, hi2⟩ := under_of hF e2 (by simp)
    obtain rfl := hx.int_inv
    refine ⟨_, w, ?_, Out.same h (.int _ _) hL⟩
    simp [convert, run_underlying (hi1.kd_int e1), run_underlying (hi2.kd_int e2), Conv.intToInt]
  · rename_i s e1 e2
    obtain ⟨i1, d1, z1, hi1⟩ := under_of hF e1 (by simp)
    obtain ⟨i2, d2, z2, hi2⟩ := under_of hF e2 (by simp)
    obtain rfl := hx.str_inv
    exact ⟨_, w, by simp [convert, run_underlying (hi1.kd_str e1), run_underlying (hi2.kd_str e2)], Out.same h (.str _) hL⟩
  · rename_i e s e1 e2
    split at h
    · rename_i e3
      obtain ⟨i1, d1, z1, hi1⟩ := under_of hF e1 (by simp)
      obtain ⟨i2, d2, z2, hi2⟩ := under_of hF e2 (by simp)
      obtain ⟨i3, d3, z3, hi3⟩ := under_of hF e3 (by simp)
      obtain rfl := hx.str_inv
      obtain ⟨hroom, hK⟩ := h
      refine ⟨_, _, Lib.run_convert_string_bytes w src dst e s (hi1.kd_str e1) (hi2.kd_slice e2) (hi3.kd_int e3), ?_⟩
      have hone := size_scalar hT (by rw [e3]; rfl) (by rw [e3]; rfl)
      have hcapn : s.size ≤ grownCap w s.size 0 e := by unfold grownCap Question.cut; simp
      have hcs : (Lib.bytesCells w e s).size = grownCap w s.size 0 e := by simp [Lib.bytesCells]; omega
      have hg : Grew w (Lib.bytesWorld w e s) (.cells (Lib.bytesCells w e s) e ((Lib.bytesCells w e s).size, (Lib.bytesCells w e s).size + 1)) := by
        refine ⟨?_, rfl, rfl, rfl⟩
        apply Array.ext_getElem?
        intro j
        rw [Array.getElem?_push]
        by_cases hj : j = w.heap.size
        · subst hj; rw [if_pos rfl, Lib.bytesWorld_at_new]
        · rw [if_neg hj]
          rcases Nat.lt_or_ge j w.heap.size with h' | h'
          · exact Lib.bytesWorld_at_old w e s j h'
          · rw [Array.getElem?_eq_none h', Array.getElem?_eq_none (by rw [Lib.bytesWorld_size]; omega)]
      have hp : ∀ c ∈ bytePVs s, pureC c := by simp [bytePVs, pureC]
      refine out_row hg hL hfr (rowOk_cells (by rw [e3]; rfl) (by rw [e3]; rfl) hp) ?_ ?_ ?_ hcapn ?_ hK
      · rw [flats_cells hp, hcs]; simp [bytePVs]; exact hcapn
      · intro k pc hk
        rw [flats_cells hp] at hk
        simp only [bytePVs, List.getElem?_map, Option.map_eq_some_iff] at hk
        obtain ⟨b, hbk, rfl⟩ := hk
        refine ⟨.int .u8 b.toNat, ?_, .int _ _⟩
        have hlt : k < s.data.size := by have := (List.getElem?_eq_some_iff.1 hbk).1; simpa using this
        simp only [Lib.bytesCells]
        rw [Array.getElem?_append_left (by simpa using hlt)]
        simp only [Array.getElem?_map, Option.map_eq_some_iff]
        exact ⟨b, by simpa using hbk, rfl⟩
      · exact .inr (Nat.le_refl _)
      · rw [hone, Nat.mul_one, hcs]; exact Nat.le_refl _
    · exact h.elim
  · rename_i e e' xs e1 e2
    split at h
    · rename_i e3
      obtain ⟨i1, d1, z1, hi1⟩ := under_of hF e1 (by simp)
      obtain ⟨i2, d2, z2, hi2⟩ := under_of hF e2 (by simp)
      obtain ⟨i3, d3, z3, hi3⟩ := under_of hF e3 (by simp)
      obtain ⟨hc, h2⟩ := cond_and h
      simp only [Nat.beq_eq] at hc; subst hc
      obtain ⟨r, hr, hrep⟩ := bytes_to_string (P := P) (K := fun v => K v []) hT e3 (list_shows hx) h2
      obtain ⟨a, cap, hv, -⟩ := (list_shows hx).val
      exact ⟨r, w, by rw [convert_bytes (hi1.kd_slice e1) (hi2.kd_str e2) (hi3.kd_int e3) ⟨_, _, _, hv⟩]; exact hr, Out.of_pure hrep hL⟩
    · exact h.elim
  · rename_i e e1 e2
    split at h
    · rename_i e3
      obtain ⟨i1, d1, z1, hi1⟩ := under_of hF e1 (by simp)
      obtain ⟨i2, d2, z2, hi2⟩ := under_of hF e2 (by simp)
      obtain ⟨i3, d3, z3, hi3⟩ := under_of hF e3 (by simp)
      obtain rfl := hx.nilsl_inv
      exact ⟨_, w, by rw [convert_bytes (hi1.kd_slice e1) (hi2.kd_str e2) (hi3.kd_int e3) ⟨_, _, _, rfl⟩]; rfl, Out.same h (.str _) hL⟩
    · exact h.elim
  · rename_i e h' e' i n e1 e2
    split at h
    · rename_i l e'' xs e3 eL
      obtain ⟨i1, d1, z1, hi1⟩ := under_of hF e1 (by simp)
      obtain ⟨i2, d2, z2, hi2⟩ := under_of hF e2 (by simp)
      obtain ⟨i3, d3, z3, hi3⟩ := under_of hF e3 (by simp)
      obtain ⟨hc, hin, h2⟩ := cond_and h
      simp only [Bool.and_eq_true, Nat.beq_eq] at hc
      obtain ⟨rfl, rfl⟩ := hc
      have hsh := sl_shows hT hx hL eL hin
      obtain ⟨r, hr, hrep⟩ := bytes_to_string (P := P) (K := fun v => K v []) hT e3 hsh h2
      obtain ⟨a, cap, hv, -⟩ := hsh.val
      exact ⟨r, w, by rw [convert_bytes (hi1.kd_slice e1) (hi2.kd_str e2) (hi3.kd_int e3) ⟨_, _, _, hv⟩]; exact hr, Out.of_pure hrep hL⟩
    · exact h.elim
  · exact h.elim

theorem flats_replicate (hT : tabSized T = true) {e : Nat} {z : PV} (hs : Shp z) (hf : fits T e z = true) (hp : pureV z) (n k : Nat) (hk : k < n * (T.at e).size) :
    (flats (List.replicate n z))[k]? = (flat z)[k % (T.at e).size]? := by
  have hpos : 0 < (T.at e).size := by
    rcases Nat.eq_zero_or_pos (T.at e).size with e' | e'
    · rw [e'] at hk; simp at hk
    · exact e'
  have hq : k / (T.at e).size < n := (Nat.div_lt_iff_lt_mul hpos).2 hk
  have hrow : RowOk T e (List.replicate n z) := fun x hx => by rw [List.eq_of_mem_replicate hx]; exact ⟨hs, hf, hp⟩
  have := row_cells hT (List.replicate n z) (k / (T.at e).size) z hrow (by simp [hq]) (k % (T.at e).size) (Nat.mod_lt _ hpos)
  rw [Nat.div_add_mod'] at this
  exact this.symm

theorem makeSlice_sound (hF : tabFits P T 0 T = true) (hT : tabSized T = true) {t : Nat} {x y : PV} {v u : Value} (h : evMakeSlice T hb t x y K) (hx : Rep T w μ ro x v) (hy : Rep T w μ ro y u) (hL : HRel T w μ ro L) (hfr : Fresh hb μ L) :
    ∃ r w', (Instr.makeSlice t v u).run P w = .ok r w' ∧ Out T hb L μ ro w K r w' := by
  unfold evMakeSlice at h
  split at h
  · rename_i e _ n _ m ek
    obtain ⟨i1, d1, z1, hi1⟩ := under_of hF ek (by simp)
    have hu := hi1.kd_slice ek
    obtain rfl := hx.int_inv
    obtain rfl := hy.int_inv
    obtain ⟨⟨h0, h1, h2, h3⟩, h⟩ := h
    obtain ⟨⟨hf, hp⟩, hK⟩ := elemOkK_spec h
    obtain ⟨i2, d2, z2, hi2⟩ := tiOk_of hF e (by intro e'; have := other_of_fits hf; rw [e'] at this; simp [Kd.isOther] at this)
    have hz := zeroEq_rep (T := T) (w := w) (μ := μ) (ro := ro) hi2.zeroEq
    obtain ⟨hs, hsz, hc⟩ := rep_cells hT hf hz.1
    have hmr : (maxRoom : Int) = 70368744177664 := rfl
    have wrapn : IntKind.i64.wrap n = n := by simp only [IntKind.wrap, IntKind.bits, IntKind.signed]; simp; omega
    have wrapm : IntKind.i64.wrap m = m := by simp only [IntKind.wrap, IntKind.bits, IntKind.signed]; simp; omega
    have hbyt : (i2.bytes : Int) * m ≤ maxRoom := by rw [hi2.bytes, Int.mul_comm]; exact h2
    have hbyt' : (i2.bytes : Int) * n ≤ maxRoom := Int.le_trans (Int.mul_le_mul_of_nonneg_left h1 (by omega)) hbyt
    let c : Array Value := (Array.range (m.toNat * (T.at e).size)).map fun j => (if m.toNat * (T.at e).size = 0 then (#[] : Array Value) else z2.cells)[j % (if m.toNat * (T.at e).size = 0 then (#[] : Array Value) else z2.cells).size]!
    have hrun : ∀ k k', (Instr.makeSlice t (.int k n) (.int k' m)).run P w = .ok (.slice (some ⟨w.heap.size, 0, none⟩) n.toNat m.toNat) { w with heap := w.heap.push (.cells c e) } := by
      intro k k'
      have e1 : (asInt (.int k n)).run P w = .ok n w := rfl
      have e2 : (asInt (.int k' m)).run P w = .ok m w := rfl
      have e3 : (typeInfo e).run P w = .ok i2 w := by simp [typeInfo, hi2.info]
      have ha : ∀ b : Nat, (askRoom b).run P w = .ok () w := fun b => by unfold askRoom; split <;> rfl
      simp only [Instr.makeSlice, Sem.run_bind, run_underlying hu, Result.andThen_ok, e1, e2, e3, wrapn, wrapm]
      rw [if_neg (by simp only [Bool.or_eq_true, decide_eq_true_eq]; omega)]
      simp only [Sem.run_bind, ha, Result.andThen_ok, hi2.run_sizeOf]
      by_cases hs0 : m.toNat * (T.at e).size = 0
      · simp only [if_pos hs0, Sem.run_pure, Result.andThen_ok, Sem.run_bind, run_newRow, c]
      · simp only [if_neg hs0, Sem.run_pure, Result.andThen_ok, Sem.run_bind, hi2.run_zero, run_newRow, c]
    refine ⟨_, _, hrun _ _, ?_⟩
    have hcs : c.size = m.toNat * (T.at e).size := by simp [c]
    have hrow : RowOk T e (List.replicate n.toNat (T.at e).zero) := fun x hx => by rw [List.eq_of_mem_replicate hx]; exact ⟨hs, hf, hp⟩
    have hle : n.toNat * (T.at e).size ≤ m.toNat * (T.at e).size := Nat.mul_le_mul_right _ (by omega)
    refine out_row (grew_push _) hL hfr hrow (by rw [flats_row_length hT _ hrow, hcs]; simpa using hle) (fun k pc hk => ?_) (.inl rfl) (by omega) (by rw [hcs]; exact Nat.le_refl _) hK
    have hlt : k < n.toNat * (T.at e).size := by
      have := (List.getElem?_eq_some_iff.1 hk).1
      rw [flats_row_length hT _ hrow] at this; simpa using this
    rw [flats_replicate hT hs hf hp n.toNat k hlt] at hk
    obtain ⟨u, hu1, hu2, -⟩ := hc _ pc hk
    refine ⟨u, ?_, hu2⟩
    have hne : ¬ m.toNat * (T.at e).size = 0 := by omega
    have hpos : 0 < (T.at e).size := by rcases Nat.eq_zero_or_pos (T.at e).size with e' | e'; · rw [e'] at hlt; simp at hlt
                                        · exact e'
    simp only [c, Array.getElem?_map, if_neg hne]
    rw [Array.getElem?_eq_getElem (by simp; omega)]
    simp only [Array.getElem_range, Option.map_some, Option.some.injEq, hsz]
    have hm : k % (T.at e).size < z2.cells.size := by rw [hsz]; exact Nat.mod_lt _ hpos
    rw [getElem!_pos z2.cells _ hm]
    rw [Array.getElem?_eq_getElem hm] at hu1
    exact Option.some.inj hu1
  · exact h.elim

end
end Pv
