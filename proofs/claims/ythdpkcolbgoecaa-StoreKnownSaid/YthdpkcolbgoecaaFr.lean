/- The frames second part: when an abstract value stands for a value of the machine, an abstract heap for its memory; and that what stays the same keeps this. -/
import Derived.Test.YthdpkcolbgoecaaFv
import Derived.Laws.Sem
import Derived.Maps.RangeRun

namespace Pv
open Go

mutual
/-- The shapes inside are true: an array has the elements that it says, of data alone. -/
def Shp : PV → Prop
  | .agg fs => Shps fs
  | .arr n xs => xs.length = n ∧ ∀ x ∈ xs, pureC x
  | _ => True
def Shps : List PV → Prop
  | [] => True
  | x :: r => Shp x ∧ Shps r
end

theorem Shps_iff (l : List PV) : Shps l ↔ ∀ x ∈ l, Shp x := by
  induction l with
  | nil => simp [Shps]
  | cons a r ih => simp [Shps, ih]

theorem flats_eq (l : List PV) : flats l = l.flatMap flat := by
  induction l with
  | nil => rfl
  | cons a r ih => simp [flats, ih]

theorem flats_append (a b : List PV) : flats (a ++ b) = flats a ++ flats b := by simp [flats_eq]

theorem at_sized {T : Tab} (hT : tabSized T = true) (t : Nat) : sizeOk T (T.at t) = true := by
  rcases Nat.lt_or_ge t T.length with h | h
  · simp only [tabSized, List.all_eq_true] at hT
    refine hT _ ?_
    simp only [Tab.at, List.getD, List.getElem?_eq_getElem h, Option.getD_some]
    exact List.getElem_mem h
  · simp [Tab.at, List.getD, List.getElem?_eq_none h, sizeOk]

mutual
/-- How many cells a value of a type has. -/
theorem flat_length {T : Tab} (hT : tabSized T = true) : ∀ (t : Nat) (x : PV), fits T t x = true → Shp x → (flat x).length = (T.at t).size
  | t, .agg fs, hf, hs => by
    have hz := at_sized hT t
    rw [fits] at hf
    rw [flat]
    split at hf
    · rename_i l e
      rw [sizeOk, e] at hz
      have := flats_length hT l fs 0 (T.at t).size hf hs hz
      omega
    · simp at hf
  | t, .arr n xs, hf, hs => by
    have hz := at_sized hT t
    rw [fits] at hf
    rw [flat]
    split at hf
    · rename_i n' e' e
      rw [sizeOk, e] at hz
      simp only [Bool.and_eq_true, Nat.beq_eq] at hf hz
      rw [hs.1, hz, hf.1.1.1, hf.1.1.2, Nat.mul_one]
    · simp at hf
  | t, .undef, hf, _ => by simp [fits] at hf
  | t, .tup _, hf, _ => by simp [fits] at hf
  | t, .bool _, hf, _ | t, .int _ _, hf, _ | t, .str _, hf, _ | t, .list _ _, hf, _ | t, .nilsl, hf, _ | t, .sl _ _ _ _, hf, _
  | t, .sla _ _ _ _ _ _ _, hf, _ | t, .ptr _ _ _ _, hf, _ | t, .vptr _ _ _, hf, _ | t, .nilp, hf, _ | t, .mapr _, hf, _ | t, .dmap _ _ _, hf, _ | t, .nilm, hf, _ | t, .fn _ _, hf, _ | t, .nilf, hf, _ => by
    have hz := at_sized hT t
    simp only [fits, Bool.and_eq_true, Bool.not_eq_true'] at hf
    simp only [flat, List.length_cons, List.length_nil]
    unfold sizeOk at hz
    split at hz <;> simp_all [Kd.isAgg, Kd.isOther]
theorem flats_length {T : Tab} (hT : tabSized T = true) : ∀ (l : List (Nat × Nat)) (fs : List PV) (acc n : Nat), fitsL T (l.map (·.2)) fs = true → Shps fs → placesOk T acc l n = true → acc + (flats fs).length = n
  | [], [], acc, n, _, _, h => by simpa [placesOk, flats] using h
  | [], _ :: _, _, _, h, _, _ => by simp [fitsL] at h
  | _ :: _, [], _, _, h, _, _ => by simp [fitsL] at h
  | (o, ft) :: r, x :: xs, acc, n, hf, hs, h => by
    simp only [List.map_cons, fitsL, Bool.and_eq_true] at hf
    simp only [placesOk, Bool.and_eq_true] at h
    have h1 := flat_length hT ft x hf.1 hs.1
    have h2 := flats_length hT r xs _ n hf.2 hs.2 h.2
    rw [flats, List.length_append]
    omega
end

theorem cellC_of_pureC {x : PV} (h : pureC x) : cellC x = true := by
  cases x <;> simp_all [pureC, cellC]

mutual
theorem fits_cells {T : Tab} : ∀ (t : Nat) (x : PV), fits T t x = true → Shp x → ∀ c ∈ flat x, cellC c = true
  | t, .agg fs, hf, hs, c, hc => by
    rw [fits] at hf
    rw [flat] at hc
    split at hf
    · exact fitsL_cells _ fs hf hs c hc
    · simp at hf
  | t, .arr n xs, hf, hs, c, hc => cellC_of_pureC (hs.2 c hc)
  | t, .undef, hf, _, _, _ => by simp [fits] at hf
  | t, .tup _, hf, _, _, _ => by simp [fits] at hf
  | t, .bool _, hf, _, c, hc | t, .int _ _, hf, _, c, hc | t, .str _, hf, _, c, hc | t, .list _ _, hf, _, c, hc | t, .nilsl, hf, _, c, hc | t, .sl _ _ _ _, hf, _, c, hc
  | t, .sla _ _ _ _ _ _ _, hf, _, c, hc | t, .ptr _ _ _ _, hf, _, c, hc | t, .vptr _ _ _, hf, _, c, hc | t, .nilp, hf, _, c, hc | t, .mapr _, hf, _, c, hc | t, .dmap _ _ _, hf, _, c, hc | t, .nilm, hf, _, c, hc | t, .fn _ _, hf, _, c, hc | t, .nilf, hf, _, c, hc => by
    simp only [flat, List.mem_singleton] at hc; subst hc; rfl
theorem fitsL_cells {T : Tab} : ∀ (ts : List Nat) (fs : List PV), fitsL T ts fs = true → Shps fs → ∀ c ∈ flats fs, cellC c = true
  | [], [], _, _, c, hc => by simp [flats] at hc
  | [], _ :: _, h, _, _, _ => by simp [fitsL] at h
  | _ :: _, [], h, _, _, _ => by simp [fitsL] at h
  | t :: ts, x :: xs, h, hs, c, hc => by
    simp only [fitsL, Bool.and_eq_true] at h
    rw [flats, List.mem_append] at hc
    rcases hc with hc | hc
    · exact fits_cells t x h.1 hs.1 c hc
    · exact fitsL_cells ts xs h.2 hs.2 c hc
end

/-- The elements of a row of a type. -/
def RowOk (T : Tab) (ty : Nat) (xs : List PV) : Prop := ∀ x ∈ xs, Shp x ∧ fits T ty x = true ∧ pureV x

/-- The entries of a map. -/
def EntOk (T : Tab) (kt et : Nat) (en : List PV) : Prop := ∀ x ∈ en, ∃ k v, x = .tup [k, v] ∧ isKey T kt k = true ∧ Shp v ∧ fits T et v = true ∧ pureV v
/-- The stamps of a maps entries. -/
def BornOk (es : Array MapEntry) (clock : Nat) : Prop := (∀ e ∈ es.toList, e.born < clock) ∧ (es.toList.map (·.born)).Nodup

/-- An abstract value stands for a value: μ tells where its blocks lie, ro which blocks are not written any more. -/
inductive Rep (T : Tab) (w : World) (μ : Nat → Option Nat) (ro : Nat → Prop) : PV → Value → Prop
  | undef (v : Value) : Rep T w μ ro .undef v
  | bool (b : Bool) : Rep T w μ ro (.bool b) (.bool b)
  | int (k : IntKind) (n : Int) : Rep T w μ ro (.int k n) (.int k n)
  | str (s : ByteArray) : Rep T w μ ro (.str s) (.string s)
  | agg (x : PV) (vs : Array Value) (h1 : isAggV x = true) (h2 : Shp x) (h3 : (flat x).length = vs.size)
      (h4 : ∀ (i : Nat) c v, (flat x)[i]? = some c → vs[i]? = some v → Rep T w μ ro c v) (h5 : ∀ c ∈ flat x, cellC c = true) : Rep T w μ ro x (.agg vs)
  | tup (xs : List PV) (vs : Array Value) (h1 : xs.length = vs.size) (h2 : ∀ (i : Nat) x v, xs[i]? = some x → vs[i]? = some v → Rep T w μ ro x v) : Rep T w μ ro (.tup xs) (.tuple vs)
  | list (ty : Nat) (xs : List PV) (b off cap : Nat) (val : Nat → Value) (h1 : xs.length ≤ cap) (h2 : RowOk T ty xs) (h3 : ro b)
      (h4 : ∀ k, k < (flats xs).length → w.cell? ⟨b, off + k, none⟩ = some (val k)) (h5 : ∀ (k : Nat) c, (flats xs)[k]? = some c → Rep T w μ ro c (val k)) :
      Rep T w μ ro (.list ty xs) (.slice (some ⟨b, off, none⟩) xs.length cap)
  | listE (ty : Nat) (a : Option Addr) (cap : Nat) : Rep T w μ ro (.list ty []) (.slice a 0 cap)
  | nilsl : Rep T w μ ro .nilsl (.slice none 0 0)
  | sl (h ty i n cap b : Nat) (c : Array Value) (t : TypeId) (fr : Nat × Nat) (h1 : μ h = some b) (h2 : n ≤ cap) (h3 : w.heap[b]? = some (.cells c t fr)) (h4 : (i + cap) * (T.at ty).size ≤ c.size) :
      Rep T w μ ro (.sl h ty i n) (.slice (some ⟨b, i * (T.at ty).size, none⟩) n cap)
  | slE (h ty i : Nat) (a : Option Addr) : Rep T w μ ro (.sl h ty i 0) (.slice a 0 0)
  | sla (h ty i : Nat) (p : List Nat) (et j n cap b : Nat) (h1 : μ h = some b) (h2 : n ≤ cap) :
      Rep T w μ ro (.sla h ty i p et j n) (.slice (some ⟨b, i * (T.at ty).size + offAt T ty p + j * (T.at et).size, none⟩) n cap)
  | slaE (h ty i : Nat) (p : List Nat) (et j : Nat) (a : Option Addr) : Rep T w μ ro (.sla h ty i p et j 0) (.slice a 0 0)
  | ptr (h ty i : Nat) (p : List Nat) (b : Nat) (h1 : μ h = some b) : Rep T w μ ro (.ptr h ty i p) (.pointer (some ⟨b, i * (T.at ty).size + offAt T ty p, none⟩))
  | vptr (ty : Nat) (x : PV) (p : List Nat) (b off : Nat) (val : Nat → Value) (h1 : Shp x ∧ fits T ty x = true ∧ pureV x) (h2 : ro b)
      (h3 : ∀ k, k < (flat x).length → w.cell? ⟨b, off + k, none⟩ = some (val k)) (h4 : ∀ (k : Nat) c, (flat x)[k]? = some c → Rep T w μ ro c (val k)) :
      Rep T w μ ro (.vptr ty x p) (.pointer (some ⟨b, off + offAt T ty p, none⟩))
  | nilp : Rep T w μ ro .nilp (.pointer none)
  | mapr (h b : Nat) (h1 : μ h = some b) : Rep T w μ ro (.mapr h) (.map (some b))
  | dmap (kt et : Nat) (en : List PV) (b : Nat) (es : Array MapEntry) (clock : Nat) (h1 : ro b) (h2 : w.heap[b]? = some (.map es clock)) (h3 : en.length = es.size) (h4 : EntOk T kt et en)
      (h5 : ∀ (i : Nat) k v e, en[i]? = some (.tup [k, v]) → es[i]? = some e → Rep T w μ ro k e.key) (h6 : ∀ (i : Nat) k v e, en[i]? = some (.tup [k, v]) → es[i]? = some e → Rep T w μ ro v e.val)
      (h7 : BornOk es clock) : Rep T w μ ro (.dmap kt et en) (.map (some b))
  | dmapE (kt et : Nat) : Rep T w μ ro (.dmap kt et []) (.map none)
  | nilm : Rep T w μ ro .nilm (.map none)
  | fn (f : FuncId) (cs : List PV) (vs : Array Value) (h1 : cs.length = vs.size) (h2 : ∀ (i : Nat) x v, cs[i]? = some x → vs[i]? = some v → Rep T w μ ro x v) : Rep T w μ ro (.fn f cs) (.func (.func f) #[] vs)
  | nilf : Rep T w μ ro .nilf .nilFunc

/-- What a step of the machine keeps: what is not written any more, the shapes of the blocks that are named. -/
structure Keeps (μ μ' : Nat → Option Nat) (ro ro' : Nat → Prop) (w w' : World) : Prop where
  mu : ∀ h b, μ h = some b → μ' h = some b
  ro_mono : ∀ b, ro b → ro' b
  same : ∀ b, ro b → w'.heap[b]? = w.heap[b]?
  shape : ∀ (b : Nat) c t fr, w.heap[b]? = some (.cells c t fr) → ∃ c' fr', w'.heap[b]? = some (.cells c' t fr') ∧ c'.size = c.size

theorem Keeps.refl (μ : Nat → Option Nat) (ro : Nat → Prop) (w : World) : Keeps μ μ ro ro w w :=
  ⟨fun _ _ h => h, fun _ h => h, fun _ _ => rfl, fun _ c t fr h => ⟨c, fr, h, rfl⟩⟩

theorem Keeps.trans {μ μ' μ'' : Nat → Option Nat} {ro ro' ro'' : Nat → Prop} {w w' w'' : World} (a : Keeps μ μ' ro ro' w w') (b : Keeps μ' μ'' ro' ro'' w' w'') : Keeps μ μ'' ro ro'' w w'' :=
  ⟨fun h x e => b.mu h x (a.mu h x e), fun x h => b.ro_mono x (a.ro_mono x h), fun x h => (b.same x (a.ro_mono x h)).trans (a.same x h), fun x c t fr h => by
    obtain ⟨c', fr', h1, h2⟩ := a.shape x c t fr h
    obtain ⟨c'', fr'', h3, h4⟩ := b.shape x c' t fr' h1
    exact ⟨c'', fr'', h3, h4.trans h2⟩⟩

theorem cell_of_block {w w' : World} {b : Nat} (h : w'.heap[b]? = w.heap[b]?) (o : Nat) : w'.cell? ⟨b, o, none⟩ = w.cell? ⟨b, o, none⟩ := by
  simp only [World.cell?, h]

theorem Rep.keep {T : Tab} {μ μ' : Nat → Option Nat} {ro ro' : Nat → Prop} {w w' : World} (hk : Keeps μ μ' ro ro' w w') {x : PV} {v : Value} (h : Rep T w μ ro x v) : Rep T w' μ' ro' x v := by
  induction h with
  | undef v => exact .undef v
  | bool b => exact .bool b
  | int k n => exact .int k n
  | str s => exact .str s
  | agg x vs h1 h2 h3 h4 h5 ih => exact .agg x vs h1 h2 h3 ih h5
  | tup xs vs h1 h2 ih => exact .tup xs vs h1 ih
  | list ty xs b off cap val h1 h2 h3 h4 h5 ih =>
    exact .list ty xs b off cap val h1 h2 (hk.ro_mono b h3) (fun k hk' => by rw [cell_of_block (hk.same b h3)]; exact h4 k hk') ih
  | listE ty a cap => exact .listE ty a cap
  | nilsl => exact .nilsl
  | sl h ty i n cap b c t fr h1 h2 h3 h4 =>
    obtain ⟨c', fr', e1, e2⟩ := hk.shape b c t fr h3
    exact .sl h ty i n cap b c' t fr' (hk.mu h b h1) h2 e1 (by rw [e2]; exact h4)
  | slE h ty i a => exact .slE h ty i a
  | sla h ty i p et j n cap b h1 h2 => exact .sla h ty i p et j n cap b (hk.mu h b h1) h2
  | slaE h ty i p et j a => exact .slaE h ty i p et j a
  | ptr h ty i p b h1 => exact .ptr h ty i p b (hk.mu h b h1)
  | vptr ty x p b off val h1 h2 h3 h4 ih => exact .vptr ty x p b off val h1 (hk.ro_mono b h2) (fun k hk' => by rw [cell_of_block (hk.same b h2)]; exact h3 k hk') ih
  | nilp => exact .nilp
  | mapr h b h1 => exact .mapr h b (hk.mu h b h1)
  | dmap kt et en b es clock h1 h2 h3 h4 h5 h6 h7 ih5 ih6 => exact .dmap kt et en b es clock (hk.ro_mono b h1) (by rw [hk.same b h1]; exact h2) h3 h4 ih5 ih6 h7
  | dmapE kt et => exact .dmapE kt et
  | nilm => exact .nilm
  | fn f cs vs h1 h2 ih => exact .fn f cs vs h1 ih
  | nilf => exact .nilf

theorem isKey_pure {T : Tab} {kt : Nat} {k : PV} (h : isKey T kt k = true) : pureC k ∧ scalar k = true := by
  unfold isKey at h
  split at h <;> first | exact ⟨trivial, rfl⟩ | simp at h
theorem pureV_cases {v : PV} (h : pureV v) : pureC v ∨ (isAggV v = true ∧ pureV v) := by
  cases v <;> first | exact .inr ⟨rfl, h⟩ | exact .inl (h _ (by simp [flat]))

/-- Data alone says nothing of where blocks lie. -/
theorem Rep.pure_mu {T : Tab} {μ μ' : Nat → Option Nat} {ro : Nat → Prop} {w : World} {x : PV} {v : Value} (h : Rep T w μ ro x v) : (pureC x ∨ (isAggV x = true ∧ pureV x)) → Rep T w μ' ro x v := by
  induction h with
  | undef v => intro hp; rcases hp with hp | hp <;> simp [pureC, isAggV] at hp
  | bool b => exact fun _ => .bool b
  | int k n => exact fun _ => .int k n
  | str s => exact fun _ => .str s
  | agg x vs h1 h2 h3 h4 h5 ih =>
    intro hp
    rcases hp with hp | ⟨_, hp⟩
    · cases x <;> simp [isAggV] at h1 <;> simp [pureC] at hp
    · exact .agg x vs h1 h2 h3 (fun i c v hc hv => ih i c v hc hv (.inl (hp c (List.mem_of_getElem? hc)))) h5
  | tup xs vs h1 h2 ih => intro hp; rcases hp with hp | hp <;> simp [pureC, isAggV] at hp
  | list ty xs b off cap val h1 h2 h3 h4 h5 ih =>
    intro _
    refine .list ty xs b off cap val h1 h2 h3 h4 (fun k c hc => ih k c hc (.inl ?_))
    have hm := List.mem_of_getElem? hc
    rw [flats_eq, List.mem_flatMap] at hm
    obtain ⟨y, hy, hcy⟩ := hm
    exact (h2 y hy).2.2 c hcy
  | listE ty a cap => exact fun _ => .listE ty a cap
  | nilsl => exact fun _ => .nilsl
  | sl => intro hp; rcases hp with hp | hp <;> simp [pureC, isAggV] at hp
  | slE => intro hp; rcases hp with hp | hp <;> simp [pureC, isAggV] at hp
  | sla => intro hp; rcases hp with hp | hp <;> simp [pureC, isAggV] at hp
  | slaE => intro hp; rcases hp with hp | hp <;> simp [pureC, isAggV] at hp
  | ptr => intro hp; rcases hp with hp | hp <;> simp [pureC, isAggV] at hp
  | vptr ty x p b off val h1 h2 h3 h4 ih =>
    exact fun _ => .vptr ty x p b off val h1 h2 h3 (fun k c hc => ih k c hc (.inl (h1.2.2 c (List.mem_of_getElem? hc))))
  | nilp => exact fun _ => .nilp
  | mapr => intro hp; rcases hp with hp | hp <;> simp [pureC, isAggV] at hp
  | dmap kt et en b es clock h1 h2 h3 h4 h5 h6 h7 ih5 ih6 =>
    intro _
    refine .dmap kt et en b es clock h1 h2 h3 h4 (fun i k v e hx he => ?_) (fun i k v e hx he => ?_) h7
    · obtain ⟨k', v', e1, e2, _⟩ := h4 _ (List.mem_of_getElem? hx)
      cases e1
      exact ih5 i k v e hx he (.inl (isKey_pure e2).1)
    · obtain ⟨k', v', e1, _, _, _, e2⟩ := h4 _ (List.mem_of_getElem? hx)
      cases e1
      exact ih6 i k v e hx he (pureV_cases e2)
  | dmapE kt et => exact fun _ => .dmapE kt et
  | nilm => exact fun _ => .nilm
  | fn f cs vs h1 h2 ih =>
    intro hp
    rcases hp with hp | hp
    · cases cs with
      | nil => exact .fn f [] vs h1 (fun i x v hx => by simp at hx)
      | cons => simp [pureC] at hp
    · simp [isAggV] at hp
  | nilf => exact fun _ => .nilf

/-- A cell that stands in memory holds neither a struct nor a tuple. -/
def oneCell : Value → Bool
  | .agg _ | .tuple _ => false
  | _ => true

theorem Rep.one {T : Tab} {μ : Nat → Option Nat} {ro : Nat → Prop} {w : World} {x : PV} {v : Value} (h : Rep T w μ ro x v) (hc : cellC x = true) : oneCell v = true := by
  cases h <;> first | rfl | (simp [cellC] at hc; done) | skip
  rename_i h1 _ _ _ _
  cases x <;> simp [isAggV] at h1 <;> simp [cellC] at hc

/-- Is a block one that may be written? -/
def Blk.live : Blk → Bool
  | .gone => false
  | .row l _ _ => l
  | .box l _ _ => l
  | .map l _ _ _ => l
  | .iter l _ _ _ _ => l

/-- A block of the machine holds what an abstract block says. -/
def BRel (T : Tab) (w : World) (μ : Nat → Option Nat) (ro : Nat → Prop) (mb : Option Nat) : Blk → Prop
  | .gone => True
  | .row l ty xs => RowOk T ty xs ∧ (mb = none → xs = []) ∧ ∀ b, mb = some b → (l = false → ro b) ∧ ∃ c t lo hi, w.heap[b]? = some (.cells c t (lo, hi)) ∧
      (l = true → lo = hi ∨ c.size ≤ lo) ∧ (flats xs).length ≤ c.size ∧ ∀ (k : Nat) pc, (flats xs)[k]? = some pc → ∃ v, c[k]? = some v ∧ Rep T w μ ro pc v
  | .box l ty x => Shp x ∧ fits T ty x = true ∧ (∀ c ∈ flat x, cellC c = true) ∧ ∃ b, mb = some b ∧ (l = false → ro b) ∧ ∃ c t lo hi, w.heap[b]? = some (.cells c t (lo, hi)) ∧
      (l = true → lo = hi ∨ c.size ≤ lo) ∧ (flat x).length = c.size ∧ ∀ (k : Nat) pc, (flat x)[k]? = some pc → ∃ v, c[k]? = some v ∧ Rep T w μ ro pc v
  | .map l kt et en => EntOk T kt et en ∧ ∃ b, mb = some b ∧ (l = false → ro b) ∧ ∃ es clock, w.heap[b]? = some (.map es clock) ∧ en.length = es.size ∧ BornOk es clock ∧
      ∀ (i : Nat) k v e, en[i]? = some (.tup [k, v]) → es[i]? = some e → Rep T w μ ro k e.key ∧ Rep T w μ ro v e.val
  | .iter l kt et rest cur => EntOk T kt et rest ∧ ∃ b, mb = some b ∧ (l = false → ro b) ∧ ∃ mo since seen c0, w.heap[b]? = some (.mapIter mo since seen c0) ∧
      ((mo = none ∧ rest = [] ∧ ∀ k v, cur ≠ .tup [k, v]) ∨ ∃ m es clock, mo = some m ∧ ro m ∧ w.heap[m]? = some (.map es clock) ∧ since = clock ∧ c0 = clock ∧ BornOk es clock ∧ rest.length = (leftOf es seen).size ∧
        (∀ (i : Nat) k v e, rest[i]? = some (.tup [k, v]) → (leftOf es seen)[i]? = some e → Rep T w μ ro k e.key ∧ Rep T w μ ro v e.val) ∧
        ∀ k v, cur = .tup [k, v] → pureC k ∧ pureV v ∧ ∃ e ∈ es.toList, ∃ s : Array Nat, seen = s.push e.born ∧ Rep T w μ ro k e.key ∧ Rep T w μ ro v e.val)

theorem nofr {lo hi n : Nat} (h : lo = hi ∨ n ≤ lo) : ∀ o, o < n → (decide (lo ≤ o) && decide (o < hi)) = false := fun o ho => by
  simp only [Bool.and_eq_false_iff, decide_eq_false_iff_not]; omega

/-- The abstract heap stands for the machines memory. -/
structure HRel (T : Tab) (w : World) (μ : Nat → Option Nat) (ro : Nat → Prop) (L : Heap) : Prop where
  lt : ∀ h b, μ h = some b → b < w.heap.size
  apart : ∀ h b, (L h).live = true → μ h = some b → ¬ ro b
  ro_lt : ∀ b, ro b → b < w.heap.size
  inj : ∀ h h' b, (L h).live = true → (L h').live = true → μ h = some b → μ h' = some b → h = h'
  blk : ∀ h, BRel T w μ ro (μ h) (L h)

/-- What a step of the machine turns: the blocks that may be written, and new ones. -/
structure Chg (μ : Nat → Option Nat) (L : Heap) (w w' : World) : Prop where
  os : w'.os = w.os
  tape : w'.tape = w.tape
  output : w'.output = w.output
  size : w.heap.size ≤ w'.heap.size
  same : ∀ b, b < w.heap.size → (∀ h, (L h).live = true → μ h ≠ some b) → w'.heap[b]? = w.heap[b]?

theorem BRel.keep {T : Tab} {μ μ' : Nat → Option Nat} {ro ro' : Nat → Prop} {w w' : World} (hk : Keeps μ μ' ro ro' w w') {mb : Option Nat} {k : Blk} (hb : ∀ b, mb = some b → w'.heap[b]? = w.heap[b]?) (h : BRel T w μ ro mb k) : BRel T w' μ' ro' mb k := by
  cases k with
  | gone => trivial
  | row l ty xs =>
    obtain ⟨h1, h2, h3⟩ := h
    refine ⟨h1, h2, fun b e => ?_⟩
    obtain ⟨h4, c, t, lo, hi, h5, h6, h7, h8⟩ := h3 b e
    exact ⟨fun e => hk.ro_mono _ (h4 e), c, t, lo, hi, by rw [hb b e]; exact h5, h6, h7, fun k pc hp => let ⟨v, a, r⟩ := h8 k pc hp; ⟨v, a, r.keep hk⟩⟩
  | box l ty x =>
    obtain ⟨h1, h2, h2', b, e, h4, c, t, lo, hi, h5, h6, h7, h8⟩ := h
    exact ⟨h1, h2, h2', b, e, fun e => hk.ro_mono _ (h4 e), c, t, lo, hi, by rw [hb b e]; exact h5, h6, h7, fun k pc hp => let ⟨v, a, r⟩ := h8 k pc hp; ⟨v, a, r.keep hk⟩⟩
  | map l kt et en =>
    obtain ⟨h1, b, e, h2, es, clock, h3, h4, h5, h6⟩ := h
    exact ⟨h1, b, e, fun e => hk.ro_mono _ (h2 e), es, clock, by rw [hb b e]; exact h3, h4, h5, fun i k v x hx he => ⟨(h6 i k v x hx he).1.keep hk, (h6 i k v x hx he).2.keep hk⟩⟩
  | iter l kt et rest cur =>
    obtain ⟨h1, b, e, h2, mo, since, seen, c0, h3, h4⟩ := h
    refine ⟨h1, b, e, fun e => hk.ro_mono _ (h2 e), mo, since, seen, c0, by rw [hb b e]; exact h3, ?_⟩
    rcases h4 with h4 | ⟨m, es, clock, a1, a2, a3, a4, a5, a6, a7, a8, a9⟩
    · exact .inl h4
    · exact .inr ⟨m, es, clock, a1, hk.ro_mono _ a2, by rw [hk.same m a2]; exact a3, a4, a5, a6, a7, fun i k v x hx he => ⟨(a8 i k v x hx he).1.keep hk, (a8 i k v x hx he).2.keep hk⟩, fun k v hc => by
        obtain ⟨p1, p2, x, hx, s, b1, b2, b3⟩ := a9 k v hc
        exact ⟨p1, p2, x, hx, s, b1, b2.keep hk, b3.keep hk⟩⟩

end Pv
