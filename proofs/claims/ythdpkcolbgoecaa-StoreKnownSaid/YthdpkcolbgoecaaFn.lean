/- The frames last part: what a law is called with; from a contract of a laws function to what its row asks. -/
import Derived.Test.YthdpkcolbgoecaaFh
import Derived.OpenShut
import Derived.Deep.Slices
import Derived.SizedLaws
import Derived.ChangeOld
import Derived.JoinedOf
import Derived.JoinedAt
import Derived.RowKit

namespace Pv
open Go Go.ChangeShapes Go.WideShapes Go.ChangeAt Go.RowKit

/-- Types of plain data. -/
def plainK (T : Tab) : Nat → Nat → Bool
  | 0, _ => false
  | n + 1, t => match (T.at t).kd with
    | .int _ => true
    | .bool => true
    | .str => true
    | .slice e => plainK T n e && Nat.blt 0 (T.at e).size
    | .struct fs => fs.all fun f => plainK T n f.2
    | .array _ e => plainK T n e && !(T.at e).kd.isAgg && !(T.at e).kd.isOther && Nat.beq (T.at e).size 1
    | _ => false

/-- What a value of a type of plain data is; M: no text, no row takes more bytes. -/
def DataOf (T : Tab) (M : Nat) : Nat → Nat → PV → Prop
  | 0, _, _ => False
  | n + 1, t, x => match (T.at t).kd with
    | .int k => ∃ m, x = .int k m ∧ (Lit.int k m).wf = true
    | .bool => ∃ b, x = .bool b
    | .str => ∃ s : ByteArray, x = .str s ∧ s.size ≤ M
    | .slice e => ∃ xs, x = .list e xs ∧ (∀ y ∈ xs, DataOf T M n e y) ∧ xs.length * (T.at e).bytes ≤ M
    | .struct fs => ∃ ys, x = .agg ys ∧ ys.length = fs.length ∧ ∀ (i : Nat) f y, fs[i]? = some f → ys[i]? = some y → DataOf T M n f.2 y
    | .array m e => ∃ ys, x = .arr m ys ∧ ys.length = m ∧ ∀ y ∈ ys, DataOf T M n e y
    | _ => False

def DatasOf (T : Tab) (M n : Nat) : List Nat → List PV → Prop
  | [], [] => True
  | t :: ts, x :: xs => DataOf T M n t x ∧ DatasOf T M n ts xs
  | _, _ => False

/-- Cells of a value, one by one. -/
def RepL (T : Tab) (w : World) (μ : Nat → Option Nat) (ro : Nat → Prop) (l : List PV) (cs : List Value) : Prop :=
  l.length = cs.length ∧ ∀ (i : Nat) c u, l[i]? = some c → cs[i]? = some u → Rep T w μ ro c u

theorem RepL.append {T : Tab} {w : World} {μ : Nat → Option Nat} {ro : Nat → Prop} {a b : List PV} {cs ds : List Value} (h1 : RepL T w μ ro a cs) (h2 : RepL T w μ ro b ds) : RepL T w μ ro (a ++ b) (cs ++ ds) := by
  refine ⟨by simp [h1.1, h2.1], fun i c u hc hu => ?_⟩
  rcases Nat.lt_or_ge i a.length with hi | hi
  · rw [List.getElem?_append_left hi] at hc
    rw [List.getElem?_append_left (by rw [← h1.1]; exact hi)] at hu
    exact h1.2 i c u hc hu
  · rw [List.getElem?_append_right hi] at hc
    rw [List.getElem?_append_right (by rw [← h1.1]; exact hi), ← h1.1] at hu
    exact h2.2 _ c u hc hu

theorem RepL.one {T : Tab} {w : World} {μ : Nat → Option Nat} {ro : Nat → Prop} {x : PV} {v : Value} (h : Rep T w μ ro x v) : RepL T w μ ro [x] [v] := by
  refine ⟨rfl, fun i c u hc hu => ?_⟩
  match i with
  | 0 => simp at hc hu; subst hc; subst hu; exact h
  | i + 1 => simp at hc

structure Good (T : Tab) (M n t : Nat) (w : World) (μ : Nat → Option Nat) (ro : Nat → Prop) (x : PV) (cs : List Value) : Prop where
  data : DataOf T M n t x
  fit : fits T t x = true
  shp : Shp x
  pur : pureV x
  rep : RepL T w μ ro (flat x) cs

section
variable {T : Tab} {P : Program} {W : World} {μ : Nat → Option Nat} {ro : Nat → Prop} {H : Type} {enc : TypeId × Value → H} {sp : Nat → Bool} {hd : Bool} {M : Nat}

theorem cellsOf_at {t : Nat} {i : TypeInfo} {d : TypeDesc} {z : Value} (h : TiOk P T t (T.at t) i d z) : P.cellsOf t = (T.at t).size := by
  simp [Program.cellsOf, h.info, h.size]
theorem bytesOf_at {t : Nat} {i : TypeInfo} {d : TypeDesc} {z : Value} (h : TiOk P T t (T.at t) i d z) : P.bytesOf t = (T.at t).bytes := by
  simp [Program.bytesOf, h.info, h.bytes]

theorem good_one {n t : Nat} {x : PV} {v : Value} (hd : DataOf T M n t x) (hf : fits T t x = true) (hs : Shp x) (hc : pureC x) (he : flat x = [x]) (h : Rep T W μ ro x v) : Good T M n t W μ ro x [v] :=
  ⟨hd, hf, hs, fun c hm => by rw [he, List.mem_singleton] at hm; subst hm; exact hc, by rw [he]; exact RepL.one h⟩

theorem agg_other {t : Nat} (h : (T.at t).kd.isAgg = false) (h2 : (T.at t).kd.isOther = false) : (!(T.at t).kd.isAgg && !(T.at t).kd.isOther) = true := by rw [h, h2]; rfl

theorem placesOk_le : ∀ (l : List (Nat × Nat)) (a m : Nat), placesOk T a l m = true → a ≤ m
  | [], a, m, h => by simp only [placesOk, Nat.beq_eq] at h; omega
  | (o, ft) :: r, a, m, h => by
    simp only [placesOk, Bool.and_eq_true, Nat.beq_eq] at h
    have := placesOk_le r _ _ h.2
    omega

/-- The fields of a struct, one behind the other. -/
theorem open_fields {n : Nat} {cs : List Value} : ∀ (l : List (Nat × Nat)) (acc m : Nat), placesOk T acc l m = true → cs.length = m → acc ≤ m →
    (∀ (i : Nat) o ft, l[i]? = some (o, ft) → ∃ x, Good T M n ft W μ ro x ((cs.drop o).take (T.at ft).size)) →
    ∃ ys, ys.length = l.length ∧ fitsL T (l.map (·.2)) ys = true ∧ Shps ys ∧ (∀ c ∈ flats ys, pureC c) ∧ RepL T W μ ro (flats ys) (cs.drop acc) ∧ ∀ (i : Nat) f y, l[i]? = some f → ys[i]? = some y → DataOf T M n f.2 y
  | [], acc, m, hp, hl, ha, _ => by
    simp only [placesOk, Nat.beq_eq] at hp
    refine ⟨[], rfl, rfl, trivial, fun c hc => by simp [flats] at hc, ?_, fun i f y hf => by simp at hf⟩
    rw [List.drop_eq_nil_of_le (by omega)]
    exact ⟨rfl, fun i c u hc => by simp [flats] at hc⟩
  | (o, ft) :: r, acc, m, hp, hl, ha, h => by
    simp only [placesOk, Bool.and_eq_true, Nat.beq_eq] at hp
    obtain ⟨ho, hp⟩ := hp
    subst ho
    obtain ⟨x, gx⟩ := h 0 o ft rfl
    have hlen : ((cs.drop o).take (T.at ft).size).length = (T.at ft).size ∨ ((cs.drop o).take (T.at ft).size).length < (T.at ft).size := by simp; omega
    have hm : o + (T.at ft).size ≤ m := placesOk_le r _ _ hp
    obtain ⟨ys, h1, h2, h3, h4, h5, h6⟩ := open_fields (n := n) (cs := cs) r (o + (T.at ft).size) m hp hl hm (fun i o' ft' e => h (i + 1) o' ft' e)
    refine ⟨x :: ys, by simp [h1], by simp [fitsL, gx.fit, h2], ⟨gx.shp, h3⟩, fun c hc => ?_, ?_, fun i f y hf hy => ?_⟩
    · rw [flats, List.mem_append] at hc
      rcases hc with hc | hc
      · exact gx.pur c hc
      · exact h4 c hc
    · rw [flats]
      have : cs.drop o = (cs.drop o).take (T.at ft).size ++ cs.drop (o + (T.at ft).size) := by
        rw [← List.drop_drop, List.take_append_drop]
      rw [this]
      exact gx.rep.append h5
    · cases i with
      | zero => simp at hf hy; subst hf; subst hy; exact gx.data
      | succ i => exact h6 i f y (by simpa using hf) (by simpa using hy)

theorem weightsAll_mem {e : TypeId} : ∀ {l : List (DataW H)} {d : DataW H}, d ∈ l → ∀ k ∈ d.weights P e, k ∈ DataW.weightsAll P e l
  | [], _, h, _, _ => by simp at h
  | a :: l, d, h, k, hk => by
    simp only [DataW.weightsAll, List.mem_append]
    rcases List.mem_cons.1 h with e | h
    · subst e; exact .inl hk
    · exact .inr (weightsAll_mem h k hk)

/-- A value that is read as data, as an abstract value. -/
theorem open_cells (hT : tabFits P T 0 T = true) (hS : tabSized T = true) (hro : ∀ b, b < W.heap.size → ro b) : ∀ (n t fuel : Nat) (cs : List Value) (d : DataW H × List MemPlace), plainK T n t = true →
    DataW.trod enc P W 0 sp hd fuel t cs = some d → (∀ k ∈ d.1.weights P t, k ≤ M) → ∃ x, Good T M n t W μ ro x cs
  | 0, t, fuel, cs, d, hk, _, _ => by simp [plainK] at hk
  | n + 1, t, fuel, cs, d, hk, h, hw => by
    have hno : (T.at t).kd ≠ .other := fun e => by simp [plainK, e] at hk
    obtain ⟨i, ds, z, ok⟩ := tiOk_of hT t hno
    have hkd := ok.kd
    have hund := ok.under
    have hcell := cellsOf_at ok
    have hsz := at_sized hS t
    cases e : (T.at t).kd with
    | int k =>
      rw [e] at hkd
      cases ds <;> simp [kdFits] at hkd
      subst hkd
      obtain ⟨m, rfl, rfl, hwf⟩ := DataW.trod_int hund h
      exact ⟨.int _ m, good_one (by rw [DataOf, e]; exact ⟨m, rfl, hwf⟩) (by show (!(T.at t).kd.isAgg && !(T.at t).kd.isOther) = true; rw [e]; rfl) trivial trivial rfl (.int _ _)⟩
    | bool =>
      rw [e] at hkd
      cases ds <;> simp [kdFits] at hkd
      obtain ⟨b, rfl, rfl⟩ := DataW.trod_bool hund h
      exact ⟨.bool b, good_one (by rw [DataOf, e]; exact ⟨b, rfl⟩) (by show (!(T.at t).kd.isAgg && !(T.at t).kd.isOther) = true; rw [e]; rfl) trivial trivial rfl (.bool _)⟩
    | str =>
      rw [e] at hkd
      cases ds <;> simp [kdFits] at hkd
      obtain ⟨s, rfl, rfl, hs⟩ := DataW.trod_string hund h
      refine ⟨.str s, good_one (by rw [DataOf, e]; exact ⟨s, rfl, by have := hw s.size (by simp [DataW.weights]); exact this⟩) (by show (!(T.at t).kd.isAgg && !(T.at t).kd.isOther) = true; rw [e]; rfl) trivial trivial rfl (.str _)⟩
    | slice el =>
      rw [e] at hkd
      cases ds <;> simp [kdFits] at hkd
      subst hkd
      rename_i el
      rw [plainK, e] at hk
      simp only [Bool.and_eq_true] at hk
      obtain ⟨hk1, hk2⟩ := hk
      have hk2 : 0 < (T.at el).size := by simpa using hk2
      have hnoe : (T.at el).kd ≠ .other := fun e' => by cases n <;> simp [plainK, e'] at hk1
      obtain ⟨ie, de, ze, oke⟩ := tiOk_of hT el hnoe
      have hce := cellsOf_at oke
      have hbe := bytesOf_at oke
      rcases Deep.open_slice hund h with ⟨rfl, rfl⟩ | ⟨a, len, cap, m, k, D, Pl, rfl, hb, hl, hm, hmm, rfl, hx⟩
      · exact ⟨.list el [], good_one (by rw [DataOf, e]; exact ⟨[], rfl, fun y hy => by simp at hy, by simp⟩) (by show (!(T.at t).kd.isAgg && !(T.at t).kd.isOther) = true; rw [e]; rfl) trivial trivial rfl (.listE _ _ _)⟩
      · have hlm : len ≤ m := by rw [hmm]; split <;> omega
        rw [hce] at hx
        have hwm : (len + (m - len)) * (T.at el).bytes ≤ M := by
          have := hw ((len + (m - len)) * P.bytesOf el) (by simp [DataW.weights, hund])
          rwa [hbe] at this
        have hwl : len * (T.at el).bytes ≤ M := Nat.le_trans (Nat.mul_le_mul_right _ (by omega)) hwm
        have hel : ∀ i, i < len → ∃ x, ∃ cs', W.cells? 0 (a.add (i * (T.at el).size)) (T.at el).size = some cs' ∧ Good T M n el W μ ro x cs' := fun i hi => by
          obtain ⟨cs', h1, h2⟩ := hx i (by omega)
          obtain ⟨x, hx⟩ := open_cells hT hS hro n el k cs' (D i, Pl i) hk1 h2 (fun q hq => hw q (by
            simp only [DataW.weights, hund, List.mem_cons, List.mem_append]
            refine .inr (.inl (weightsAll_mem (d := D i) (List.mem_map.2 ⟨i, by simpa using hi, rfl⟩) q hq))))
          exact ⟨x, cs', h1, hx⟩
        obtain ⟨f, hf⟩ := Deep.choose_lt hel
        have hxs : ∀ y ∈ (List.range len).map f, ∃ cs', Good T M n el W μ ro y cs' := fun y hy => by
          obtain ⟨i, hi, rfl⟩ := List.mem_map.1 hy
          obtain ⟨cs', _, g⟩ := hf i (by simpa using hi)
          exact ⟨cs', g⟩
        have hrow : RowOk T el ((List.range len).map f) := fun y hy => by
          obtain ⟨cs', g⟩ := hxs y hy
          exact ⟨g.shp, g.fit, g.pur⟩
        have hdata : DataOf T M (n + 1) t (.list el ((List.range len).map f)) := by
          rw [DataOf, e]
          refine ⟨_, rfl, fun y hy => ?_, by simpa using hwl⟩
          obtain ⟨cs', g⟩ := hxs y hy
          exact g.data
        have hfit : fits T t (.list el ((List.range len).map f)) = true := (by show (!(T.at t).kd.isAgg && !(T.at t).kd.isOther) = true; rw [e]; rfl)
        refine ⟨.list el ((List.range len).map f), good_one hdata hfit trivial trivial rfl ?_⟩
        rcases Nat.eq_zero_or_pos len with h0 | h0
        · subst h0
          exact .listE _ _ _
        · -- the first cell tells where the row lies
          have hcell : ∀ i, i < len → ∀ j, j < (T.at el).size → ∃ u, W.cell? ((a.add (i * (T.at el).size)).add j) = some u ∧ ∀ c, (flat (f i))[j]? = some c → Rep T W μ ro c u := fun i hi j hj => by
            obtain ⟨cs', h1, g⟩ := hf i hi
            obtain ⟨_, h2, h3⟩ := World.cells?_some h1
            have h4 := h3 j hj
            rw [List.getElem?_eq_getElem (by omega)] at h4
            exact ⟨_, h4, fun c hc => g.rep.2 j c _ hc (List.getElem?_eq_getElem (by omega))⟩
          obtain ⟨u0, hu0, _⟩ := hcell 0 h0 0 hk2
          have ha0 : (a.add (0 * (T.at el).size)).add 0 = a := by simp [Addr.add]
          rw [ha0] at hu0
          have hspot : a.spot = none := by
            unfold World.cell? at hu0
            split at hu0
            · split at hu0
              · simp at hu0
              · rename_i hs; simpa using hs
            · simp at hu0
          have hlt : a.block < W.heap.size := by
            unfold World.cell? at hu0
            split at hu0
            · rename_i hh; exact (Array.getElem?_eq_some_iff.1 hh).1
            · simp at hu0
          obtain ⟨b, off, spot⟩ := a
          simp only at hspot
          subst hspot
          have hlen : ((List.range len).map f).length = len := by simp
          have hfl := flats_row_length hS _ hrow
          rw [hlen] at hfl
          have key : ∀ k, k < (flats ((List.range len).map f)).length → ∃ u, W.cell? ⟨b, off + k, none⟩ = some u ∧ ∀ c, (flats ((List.range len).map f))[k]? = some c → Rep T W μ ro c u := fun k hk => by
            rw [hfl] at hk
            have hq : k / (T.at el).size < len := Nat.div_lt_of_lt_mul (by rw [Nat.mul_comm]; exact hk)
            have hr := Nat.mod_lt k hk2
            obtain ⟨u, h1, h2⟩ := hcell _ hq _ hr
            have hkk : k / (T.at el).size * (T.at el).size + k % (T.at el).size = k := by rw [Nat.mul_comm]; exact Nat.div_add_mod _ _
            refine ⟨u, ?_, fun c hc => h2 c ?_⟩
            · rw [Deep.add_add, hkk] at h1
              have : (⟨b, off, none⟩ : Addr).add k = ⟨b, off + k, none⟩ := by unfold Addr.add; split <;> simp_all
              rwa [this] at h1
            · have hget : ((List.range len).map f)[k / (T.at el).size]? = some (f (k / (T.at el).size)) := by simp [hq]
              rw [row_cells hS _ _ _ hrow hget _ hr, hkk]; exact hc
          obtain ⟨val, hval⟩ := Deep.choose_lt (α := Value) key
          have := Rep.list (T := T) (w := W) (μ := μ) (ro := ro) el ((List.range len).map f) b off cap val (by simpa using hl) hrow (hro b hlt) (fun k hk => (hval k hk).1) (fun k c hc => by
            have hk : k < (flats ((List.range len).map f)).length := (List.getElem?_eq_some_iff.1 hc).1
            exact (hval k hk).2 c hc)
          rwa [hlen] at this
    | struct fs =>
      rw [e] at hkd
      cases ds <;> simp [kdFits] at hkd
      rename_i fa
      rw [plainK, e] at hk
      simp only [List.all_eq_true] at hk
      obtain ⟨xs, m, rfl, rfl, hl, hxl, hx⟩ := DataW.trod_struct hund h
      rw [sizeOk, e] at hsz
      rw [hcell] at hl
      have hfld : ∀ (i : Nat) o ft, fs[i]? = some (o, ft) → ∃ x, Good T M n ft W μ ro x ((cs.drop o).take (T.at ft).size) := fun i o ft hf => by
        rw [← hkd, List.getElem?_map, Option.map_eq_some_iff] at hf
        obtain ⟨fd, hfd, hfe⟩ := hf
        cases hfe
        have hfd' : fa[i]? = some fd := by simpa using hfd
        have hxi := hx i fd hfd'
        have hkf : plainK T n fd.type = true := hk (fd.offset, fd.type) (by rw [← hkd]; exact List.mem_map.2 ⟨fd, List.mem_of_getElem? hfd, rfl⟩)
        have hnoe : (T.at fd.type).kd ≠ .other := fun e' => by cases n <;> simp [plainK, e'] at hkf
        obtain ⟨ie, de, ze, oke⟩ := tiOk_of hT fd.type hnoe
        rw [cellsOf_at oke] at hxi
        have hi : i < xs.length := by
          have := (Array.getElem?_eq_some_iff.1 hfd').1
          omega
        rw [List.getElem?_eq_getElem hi] at hxi
        refine open_cells hT hS hro n fd.type m _ _ hkf hxi (fun q hq => hw q ?_)
        simp only [DataW.weights, hund]
        exact DataW.weights_mem_each (j := i) (t := fd.type) (d := xs[i].1) (by rw [List.getElem?_map, hfd]; rfl) (by rw [List.getElem?_map, List.getElem?_eq_getElem hi]; rfl) q hq
      obtain ⟨ys, h1, h2, h3, h4, h5, h6⟩ := open_fields (n := n) (cs := cs) fs 0 _ hsz hl (Nat.zero_le _) hfld
      refine ⟨.agg ys, ?_, ?_, h3, h4, by simpa [flat] using h5⟩
      · rw [DataOf, e]; exact ⟨ys, rfl, h1, h6⟩
      · rw [fits, e]; exact h2
    | array m el =>
      rw [e] at hkd
      cases ds <;> simp [kdFits] at hkd
      obtain ⟨rfl, rfl⟩ := hkd
      rename_i m el
      rw [plainK, e] at hk
      simp only [Bool.and_eq_true, Bool.not_eq_true', Nat.beq_eq] at hk
      obtain ⟨⟨⟨hk1, hk2⟩, hk3⟩, hk4⟩ := hk
      have hnoe : (T.at el).kd ≠ .other := fun e' => by rw [e'] at hk3; simp [Kd.isOther] at hk3
      obtain ⟨ie, de, ze, oke⟩ := tiOk_of hT el hnoe
      obtain ⟨xs, q, rfl, rfl, hl, hxl, hx⟩ := DataW.trod_array hund h
      rw [cellsOf_at oke, hk4] at hx
      rw [hcell] at hl
      rw [sizeOk, e] at hsz
      simp only [Nat.beq_eq] at hsz
      rw [hsz, hk4, Nat.mul_one] at hl
      have hel : ∀ i, i < m → ∃ x, Good T M n el W μ ro x [cs.getD i undef] := fun i hi => by
        have hxi := hx i hi
        have e1 : (cs.drop (i * 1)).take 1 = [cs.getD i undef] := by
          rw [Nat.mul_one, List.drop_eq_getElem_cons (by omega), List.take_succ_cons, List.take_zero]
          simp [List.getD, List.getElem?_eq_getElem (show i < cs.length by omega)]
        rw [e1, List.getElem?_eq_getElem (by omega)] at hxi
        refine open_cells hT hS hro n el q _ _ hk1 hxi (fun k hk => hw k ?_)
        simp only [DataW.weights, hund]
        exact weightsAll_mem (List.mem_map.2 ⟨xs[i], List.getElem_mem (by omega), rfl⟩) k hk
      obtain ⟨f, hf⟩ := Deep.choose_lt hel
      have hflat : ∀ i, i < m → flat (f i) = [f i] := fun i hi => by
        have := (hf i hi).fit
        cases hfi : f i <;> first | rfl | (rw [hfi, fits] at this; split at this <;> simp_all [Kd.isAgg])
      refine ⟨.arr m ((List.range m).map f), ?_, ?_, ?_, ?_, ?_⟩
      · rw [DataOf, e]
        refine ⟨_, rfl, by simp, fun y hy => ?_⟩
        obtain ⟨i, hi, rfl⟩ := List.mem_map.1 hy
        exact (hf i (by simpa using hi)).data
      · rw [fits, e]; simp [hk2, hk3, hk4]
      · refine ⟨by simp, fun y hy => ?_⟩
        obtain ⟨i, hi, rfl⟩ := List.mem_map.1 hy
        have hi : i < m := by simpa using hi
        exact (hf i hi).pur _ (by rw [hflat i hi]; simp)
      · intro y hy
        obtain ⟨i, hi, rfl⟩ := List.mem_map.1 (show y ∈ (List.range m).map f from hy)
        have hi : i < m := by simpa using hi
        exact (hf i hi).pur _ (by rw [hflat i hi]; simp)
      · refine ⟨by simp [flat, hl], fun i c u hc hu => ?_⟩
        have hi : i < m := by have := (List.getElem?_eq_some_iff.1 hc).1; simpa [flat] using this
        have hci : c = f i := by simp [flat, hi] at hc; exact hc.symm
        subst hci
        have hr := (hf i hi).rep.2 0 (f i) (cs.getD i undef) (by rw [hflat i hi]; rfl) rfl
        have : cs.getD i undef = u := by simp [List.getD, hu]
        rwa [this] at hr
    | ptr _ => simp [plainK, e] at hk
    | map _ _ => simp [plainK, e] at hk
    | func => simp [plainK, e] at hk
    | other => simp [plainK, e] at hk

/-- An argument. -/
theorem open_arg (hT : tabFits P T 0 T = true) (hS : tabSized T = true) (hro : ∀ b, b < W.heap.size → ro b) {n t : Nat} {base : Nat} {v : Value} {d : DataW H} {ps : List MemPlace} (hk : plainK T n t = true) (hval : Value.okWide P W .any base t v)
    (h : DataW.Trod enc P W 0 sp hd t v d ps) (hw : ∀ k ∈ d.weights P t, k ≤ M) : ∃ x, DataOf T M n t x ∧ Rep T W μ ro x v := by
  obtain ⟨fuel, h⟩ := h
  obtain ⟨x, g⟩ := open_cells (M := M) (μ := μ) hT hS hro n t fuel _ _ hk h hw
  refine ⟨x, g.data, ?_⟩
  have hno : (T.at t).kd ≠ .other := fun e => by cases n <;> simp [plainK, e] at hk
  obtain ⟨i, ds, z, ok⟩ := tiOk_of hT t hno
  have hund := ok.under
  have hkd := ok.kd
  have agg : ∀ vs : Array Value, v = .agg vs → isAggV x = true → Rep T W μ ro x v := fun vs e hx => by
    subst e
    have hl : (flat x).length = vs.size := by have := g.rep.1; simpa [Value.cells] using this
    refine .agg x vs hx g.shp hl (fun i c u hc hu => g.rep.2 i c u hc (by simpa [Value.cells] using hu)) (fits_cells t x g.fit g.shp)
  have one : v.cells.toList = [v] → flat x = [x] → Rep T W μ ro x v := fun h1 h2 => by
    have := g.rep
    rw [h1, h2] at this
    exact this.2 0 x v rfl rfl
  have hdata := g.data
  cases n with
  | zero => exact hdata.elim
  | succ n =>
  rw [DataOf] at hdata
  cases e : (T.at t).kd with
  | int k =>
    rw [e] at hkd hdata
    cases ds <;> simp [kdFits] at hkd
    obtain ⟨m, rfl⟩ := okWide_int hund hval
    obtain ⟨_, rfl, _⟩ := hdata
    exact one rfl rfl
  | bool =>
    rw [e] at hkd hdata
    cases ds <;> simp [kdFits] at hkd
    obtain ⟨m, rfl⟩ := okWide_bool hund hval
    obtain ⟨_, rfl⟩ := hdata
    exact one rfl rfl
  | str =>
    rw [e] at hkd hdata
    cases ds <;> simp [kdFits] at hkd
    obtain ⟨m, rfl⟩ := okWide_string hund hval
    obtain ⟨_, rfl, _⟩ := hdata
    exact one rfl rfl
  | slice el =>
    rw [e] at hkd hdata
    cases ds <;> simp [kdFits] at hkd
    obtain ⟨a, l, c, rfl⟩ := okWide_slice hund hval
    obtain ⟨_, rfl, _⟩ := hdata
    exact one rfl rfl
  | struct fs =>
    rw [e] at hkd hdata
    cases ds <;> simp [kdFits] at hkd
    obtain ⟨vs, rfl, _⟩ := okWide_struct hund hval
    obtain ⟨_, rfl, _⟩ := hdata
    exact agg vs rfl rfl
  | array m el =>
    rw [e] at hkd hdata
    cases ds <;> simp [kdFits] at hkd
    simp only [Value.okWide, hund] at hval
    obtain ⟨vs, rfl, _⟩ := hval
    obtain ⟨_, rfl, _⟩ := hdata
    exact agg vs rfl rfl
  | ptr _ => rw [e] at hdata; exact hdata.elim
  | map _ _ => rw [e] at hdata; exact hdata.elim
  | func => rw [e] at hdata; exact hdata.elim
  | other => rw [e] at hdata; exact hdata.elim

theorem open_args (hT : tabFits P T 0 T = true) (hS : tabSized T = true) (hro : ∀ b, b < W.heap.size → ro b) {n base : Nat} : ∀ (ts : List TypeId) (vs : List Value) (ds : List (DataW H)) (ps : List MemPlace), (∀ t ∈ ts, plainK T n t = true) →
    (∀ (j : Nat) t v, ts[j]? = some t → vs[j]? = some v → Value.okWide P W .any base t v) → DataW.TrodAll enc P W 0 sp hd ts vs ds ps → (∀ k ∈ DataW.weightsEach P ts ds, k ≤ M) →
    ∃ xs, DatasOf T M n ts xs ∧ xs.length = vs.length ∧ ∀ (i : Nat) x v, xs[i]? = some x → vs[i]? = some v → Rep T W μ ro x v
  | [], vs, ds, ps, _, _, h, _ => by
    obtain ⟨rfl, rfl, rfl⟩ := trodAll_nil h
    exact ⟨[], trivial, rfl, fun i x v hx => by simp at hx⟩
  | t :: ts, vs, ds, ps, hk, hval, h, hw => by
    obtain ⟨v, vs', d, ds', p, q, rfl, rfl, rfl, h0, h1⟩ := trodAll_cons h
    simp only [DataW.weightsEach, List.mem_append] at hw
    obtain ⟨x, hx, hr⟩ := open_arg (μ := μ) hT hS hro (hk t (by simp)) (hval 0 t v rfl rfl) h0 (fun k hk => hw k (.inl hk))
    obtain ⟨xs, hxs, hl, hrs⟩ := open_args hT hS hro ts vs' ds' q (fun t ht => hk t (by simp [ht])) (fun j t v ht hv => hval (j + 1) t v (by simpa using ht) (by simpa using hv)) h1 (fun k hk => hw k (.inr hk))
    refine ⟨x :: xs, ⟨hx, hxs⟩, by simp [hl], fun i y u hy hu => ?_⟩
    cases i with
    | zero => simp at hy hu; subst hy; subst hu; exact hr
    | succ i => exact hrs i y u (by simpa using hy) (by simpa using hu)

theorem trodAll_size : ∀ {ts : List TypeId} {vs : List Value} {ds : List (DataW H)} {ps : List MemPlace} {w : World} {base : Nat} {spare : Nat → Bool} {held : Bool}, DataW.TrodAll enc P w base spare held ts vs ds ps → ds.length = ts.length
  | [], vs, ds, ps, _, _, _, _, h => by
    obtain ⟨rfl, rfl, rfl⟩ := trodAll_nil h
    rfl
  | t :: ts, vs, ds, ps, _, _, _, _, h => by
    obtain ⟨v, vs', d, ds', p, q, rfl, rfl, rfl, h0, h1⟩ := trodAll_cons h
    simp [trodAll_size h1]

theorem trodAll_below (hl : laidOutB P = true) {W' : World} (hb : Below W.heap.size W W') : ∀ (ts : List TypeId) (vs : List Value) (ds : List (DataW H)) (ps : List MemPlace), (∀ t ∈ ts, P.readableRec t = true ∧ t < P.types.size) →
    DataW.TrodAll enc P W 0 (fun _ => true) true ts vs ds ps → DataW.TrodAll enc P W' 0 (fun b => decide (b < W.heap.size)) true ts vs ds ps
  | [], vs, ds, ps, _, h => by
    obtain ⟨rfl, rfl, rfl⟩ := trodAll_nil h
    exact trodAll_mk0
  | t :: ts, vs, ds, ps, hk, h => by
    have hlt := DataW.TrodAll.lt h
    obtain ⟨v, vs', d, ds', p, q, rfl, rfl, rfl, h0, h1⟩ := trodAll_cons h
    obtain ⟨h2, h3⟩ := hk t (by simp)
    exact ⟨p, q, Below.trod hl h2 h3 h0 hb (fun x hx => hlt x (by simp [hx])), trodAll_below hl hb ts vs' ds' q (fun t ht => hk t (by simp [ht])) h1, rfl⟩

/-- A law of its functions contract: what the rows walk is asked for. -/
theorem law_contract {Γ : Globs} {f : FuncId} {fn : Func} {φ : FnSem} {n rt : Nat} (hT : tabFits P T 0 T = true) (hS : tabSized T = true) (hl : laidOutB P = true)
    (hs : Sound P T Γ f φ) (hΓ : ∀ g, Γ g = none) (s : ChangeSpec) (hv : s.vars = []) (hspec : ∀ ds : List (DataW H), ds.length = fn.params.size → s.fn H ds = { results := [.lit (.bool true)], args := ds })
    (hpl : ∀ t ∈ fn.params.toList, plainK T n t = true ∧ P.readableRec t = true ∧ t < P.types.size) (hr : fn.resultTypes = #[rt]) (hb : P.underlying rt = some .bool)
    (base : Nat) (args : Array Value) (ds gs : List (DataW H)) (before : List MemPlace)
    (hlaw : ∀ xs, DatasOf T reachBytes n fn.params.toList xs → φ [] xs (fun _ res => res = [.bool true]))
    (hval : ∀ (j : Nat) t v, fn.params[j]? = some t → args[j]? = some v → Value.okWide P W .any base t v)
    (hW : DataW.Whole enc P fn.params.toList s.vars false W args.toList ds gs before)
    (hsz : (DataW.weightsEach P (fn.params.toList ++ s.plain.varTypes P) (ds ++ gs)).all (· ≤ reachBytes) = true) :
    Calls P f args W fun e W' => ∃ v, e = .returned v ∧ s.post enc P fn false true false false W args v W' := by
  have hW' := hW
  obtain ⟨p, q, hA, hV, rfl, hfz, hnd⟩ := hW
  rw [hv] at hV
  obtain ⟨rfl, rfl⟩ := trodVars_none hV
  have hlen := trodAll_size hA
  have hvt : s.plain.varTypes P = [] := by simp [ChangeSpec.plain, DataSpec.varTypes, hv]
  rw [hvt, List.append_nil, List.append_nil] at hsz
  obtain ⟨xs, h1, h2, h3⟩ := open_args (M := reachBytes) (μ := fun _ => none) (ro := fun b => b < W.heap.size) hT hS (fun _ h => h) fn.params.toList args.toList ds p (fun t ht => (hpl t ht).1)
    (fun j t v ht hv => hval j t v (by simpa using ht) (by simpa using hv)) hA (fun k hk => by simpa using List.all_eq_true.1 hsz k hk)
  have hH : HRel T W (fun _ => none) (fun b => b < W.heap.size) (hp []) :=
    ⟨fun h b e => (nomatch e), fun h b hl => by simp [hp, List.getD, Blk.live] at hl, fun _ h => h, fun h h' b hl => by simp [hp, List.getD, Blk.live] at hl, fun h => by simp [hp, List.getD]; exact trivial⟩
  have hc := hs [] xs _ (hlaw xs h1) W (fun _ => none) (fun b => b < W.heap.size) args (by rw [h2]; simp) (fun i x v hx hv => h3 i x v hx (by simpa using hv)) hH (fun _ _ => rfl) (fun g ty x e => by rw [hΓ g] at e; cases e)
  refine hc.mono fun e W' ⟨v, bs', res, μ', ro', he, hK, hrep, _, _, _, hsince⟩ => ?_
  have hK : res = [.bool true] := hK
  subst he
  subst hK
  have hvt : v = .bool true := by
    cases hrep with
    | bool => rfl
    | agg _ vs h => simp [oneRes, isAggV] at h
  subst hvt
  have bel : Below W.heap.size W W' := ⟨hsince.os, hsince.tape, hsince.output, hsince.size, fun b hb => hsince.same b hb (fun h hl => by simp [hp, List.getD, Blk.live] at hl)⟩
  have hfn := hspec (ds ++ []) (by rw [List.append_nil, hlen]; simp)
  refine ⟨_, rfl, ds, [], p ++ [], [], p, [], hW', ?_, ?_, ?_, bel.frame _, fun h => by cases h⟩
  · rw [hfn, hr]; exact trodAll_mk1 (shut_bool hb _)
  · rw [hfn]; simp only [List.append_nil]; exact trodAll_below hl bel _ _ _ _ (fun t ht => (hpl t ht).2) hA
  · rw [hfn, hv]; exact rfl
end
end Pv
