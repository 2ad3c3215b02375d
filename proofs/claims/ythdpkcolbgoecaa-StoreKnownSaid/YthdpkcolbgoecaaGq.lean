/- The frame: == of structs and arrays, cell by cell. -/
import Derived.Test.YthdpkcolbgoecaaFo
import Derived.Laws.StructEq

namespace Pv
open Go

theorem peqs_append : ∀ (a b c d : List PV), a.length = c.length → peqs (a ++ b) (c ++ d) = (peqs a c && peqs b d)
  | [], b, [], d, _ => by simp [peqs]
  | [], _, _ :: _, _, h => by simp at h
  | _ :: _, _, [], _, h => by simp at h
  | x :: a, b, y :: c, d, h => by
    simp only [List.cons_append, peqs, peqs_append a b c d (by simpa using h), Bool.and_assoc]

theorem cmpL_len : ∀ {l : List Kd} {a b : List PV}, cmpL l a b → a.length = l.length ∧ b.length = l.length
  | [], [], [], _ => ⟨rfl, rfl⟩
  | _ :: _, _ :: _, _ :: _, h => by simp [cmpL_len h.2]
  | [], _ :: _, _, h | [], [], _ :: _, h | _ :: _, [], _, h | _ :: _, _ :: _, [], h => by simp [cmpL] at h

theorem cmpL_split : ∀ {l m : List Kd} {a b : List PV}, cmpL (l ++ m) a b → cmpL l (a.take l.length) (b.take l.length) ∧ cmpL m (a.drop l.length) (b.drop l.length)
  | [], m, a, b, h => by simpa [cmpL] using h
  | k :: l, m, [], b, h => by simp [cmpL] at h
  | k :: l, m, x :: a, [], h => by simp [cmpL] at h
  | k :: l, m, x :: a, y :: b, h => by
    simp only [List.cons_append, cmpL] at h
    have := cmpL_split h.2
    simpa [cmpL, h.1] using this

/-- The cells of a type that may be compared. -/
def leaves (T : Tab) : Nat → Nat → Option (List Kd)
  | 0, _ => none
  | d + 1, t => match (T.at t).kd with
    | .int k => some [.int k]
    | .bool => some [.bool]
    | .str => some [.str]
    | .struct l => l.foldr (fun f r => match leaves T d f.2, r with | some x, some y => some (x ++ y) | _, _ => none) (some [])
    | .array n e => (leaves T d e).map fun x => (List.replicate n x).flatten
    | _ => none

/-- No field of no name, no struct that the model stands in for. -/
def namesOk (P : Program) (T : Tab) : Nat → Nat → Bool
  | 0, _ => false
  | d + 1, t => match (T.at t).kd with
    | .struct l => !P.stoodInHeld t && (P.fieldsOf t).toList.all (fun f => !decide (f.name = "_")) && l.all fun f => namesOk P T d f.2
    | .array _ e => namesOk P T d e
    | _ => true

section
variable {P : Program} {T : Tab} {w : World} {μ : Nat → Option Nat} {ro : Nat → Prop}

theorem one_ext {v : Array Value} (h : v.size = 1) : v = #[v[0]] := by
  refine Array.ext (by simp [h]) (fun j h1 h2 => ?_)
  have : j = 0 := by simp at h2; omega
  subst this; rfl

/-- Rows of cells, and what they stand for. -/
structure Stand (T : Tab) (w : World) (μ : Nat → Option Nat) (ro : Nat → Prop) (cs : List PV) (vs : Array Value) : Prop where
  len : cs.length = vs.size
  rep : ∀ (i : Nat) c v, cs[i]? = some c → vs[i]? = some v → Rep T w μ ro c v

theorem Stand.seg {cs : List PV} {vs : Array Value} (h : Stand T w μ ro cs vs) (off n : Nat) : Stand T w μ ro ((cs.drop off).take n) (vs.extract off (off + n)) := by
  have h1 := h.len
  refine ⟨by simp; omega, fun i c v hc hv => ?_⟩
  rw [List.getElem?_take] at hc
  split at hc
  · rw [List.getElem?_drop] at hc
    rw [Array.getElem?_extract] at hv
    split at hv
    · exact h.rep _ c v hc hv
    · cases hv
  · cases hc

theorem run_isAgg (hF : tabFits P T 0 T = true) {t : Nat} (hk : (T.at t).kd ≠ .other) (w : World) : (isAgg t).run P w = .ok (T.at t).kd.isAgg w := by
  obtain ⟨i, d, z, hi⟩ := tiOk_of hF t hk
  have := hi.kd
  simp only [isAgg, Sem.run_bind, run_underlying hi.under, Result.andThen_ok]
  cases d <;> cases hkd : (T.at t).kd <;> simp_all [kdFits, Kd.isAgg]

def valAt (T : Tab) (t : Nat) (vs : Array Value) : Value := if (T.at t).kd.isAgg then .agg vs else vs.getD 0 undef

theorem run_partT (hF : tabFits P T 0 T = true) {t : Nat} (hk : (T.at t).kd ≠ .other) (h1 : (T.at t).kd.isAgg = false → (T.at t).size = 1) {vs : Array Value} {off : Nat} (ho : off + (T.at t).size ≤ vs.size) (w : World) :
    (part t vs off).run P w = .ok (valAt T t (vs.extract off (off + (T.at t).size))) w := by
  obtain ⟨i, d, z, hi⟩ := tiOk_of hF t hk
  simp only [part, Sem.run_bind, run_isAgg hF hk, Result.andThen_ok, valAt]
  cases e : (T.at t).kd.isAgg with
  | true =>
    simp only [if_true, Sem.run_bind, Sem.run_pure]
    have : (Go.sizeOf t).run P w = Result.ok (T.at t).size w := by
      rw [← hi.size]; simp [Go.sizeOf, typeInfo, Sem.run_bind, hi.info]
    rw [this]; rfl
  | false =>
    have := h1 e
    have hlt : off < vs.size := by omega
    rw [this]
    have h0 : 0 < min (off + 1) vs.size - off := by omega
    simp [hlt, Array.getElem?_extract, h0]

theorem scalar_size (hT : tabSized T = true) {t : Nat} (h : (T.at t).kd.isAgg = false) (ho : (T.at t).kd ≠ .other) : (T.at t).size = 1 := by
  have := at_sized hT t
  rw [sizeOk] at this
  cases e : (T.at t).kd <;> rw [e] at this h ho <;> first | exact Nat.eq_of_beq_eq_true this | (simp [Kd.isAgg] at h; done) | exact absurd rfl ho

theorem leaves_kd {d t : Nat} {l : List Kd} (h : leaves T d t = some l) : (T.at t).kd ≠ .other := by
  intro e
  cases d with
  | zero => cases h
  | succ d => simp [leaves, e] at h

theorem flatten_replicate_len (n : Nat) (x : List Kd) : (List.replicate n x).flatten.length = n * x.length := by
  induction n with
  | zero => simp
  | succ n ih => simp [List.replicate_succ, ih, Nat.succ_mul, Nat.add_comm]

mutual
theorem leaves_len (hT : tabSized T = true) : ∀ (d t : Nat) (l : List Kd), leaves T d t = some l → l.length = (T.at t).size
  | 0, _, _, h => by cases h
  | d + 1, t, l, h => by
    have hz := at_sized hT t
    rw [sizeOk] at hz
    rw [leaves] at h
    split at h
    · rename_i k e; rw [e] at hz; cases h; exact (Nat.eq_of_beq_eq_true hz).symm
    · rename_i e; rw [e] at hz; cases h; exact (Nat.eq_of_beq_eq_true hz).symm
    · rename_i e; rw [e] at hz; cases h; exact (Nat.eq_of_beq_eq_true hz).symm
    · rename_i fs e; rw [e] at hz
      have := leavesL_len hT d fs l 0 (T.at t).size h hz
      omega
    · rename_i n e' e
      rw [e] at hz
      simp only [Option.map_eq_some_iff] at h
      obtain ⟨x, hx, rfl⟩ := h
      rw [flatten_replicate_len, leaves_len hT d e' x hx]
      exact (Nat.eq_of_beq_eq_true hz).symm
    · cases h
theorem leavesL_len (hT : tabSized T = true) (d : Nat) : ∀ (fs : List (Nat × Nat)) (l : List Kd) (acc n : Nat), fs.foldr (fun f r => match leaves T d f.2, r with | some x, some y => some (x ++ y) | _, _ => none) (some []) = some l → placesOk T acc fs n = true → acc + l.length = n
  | [], l, acc, n, h, hp => by
    simp at h; subst h
    simp only [placesOk] at hp
    simpa using Nat.eq_of_beq_eq_true hp
  | (o, ft) :: r, l, acc, n, h, hp => by
    simp only [List.foldr_cons] at h
    split at h
    · rename_i x y hx hy
      cases h
      simp only [placesOk, Bool.and_eq_true, Nat.beq_eq] at hp
      have h1 := leaves_len hT d ft x hx
      have h2 := leavesL_len hT d r y _ n hy hp.2
      simp only [List.length_append]
      omega
    · cases h
end

/-- == goes cell by cell. -/
theorem equal_cells (hF : tabFits P T 0 T = true) (hT : tabSized T = true) : ∀ (d t D : Nat) (l : List Kd) (cs ds : List PV) (vs us : Array Value), leaves T d t = some l → namesOk P T d t = true → d ≤ D → Stand T w μ ro cs vs → Stand T w μ ro ds us → cmpL l cs ds →
    (Op.equalIn D t (valAt T t vs) (valAt T t us)).run P w = .ok (peqs cs ds) w := by
  intro d
  induction d with
  | zero => intro t D l cs ds vs us h; cases h
  | succ d ih =>
    intro t D l cs ds vs us h hn hD hv hu hc
    have hko := leaves_kd h
    have hsz := leaves_len hT _ _ _ h
    obtain ⟨hl1, hl2⟩ := cmpL_len hc
    obtain ⟨D, rfl⟩ : ∃ D', D = D' + 1 := ⟨D - 1, by omega⟩
    obtain ⟨i, de, z, hi⟩ := tiOk_of hF t hko
    rw [leaves] at h
    rw [namesOk] at hn
    have one : ∀ {k : Kd}, l = [k] → ∃ c e v u, cs = [c] ∧ ds = [e] ∧ vs = #[v] ∧ us = #[u] ∧ cmpK k c e ∧ Rep T w μ ro c v ∧ Rep T w μ ro e u := by
      intro k e
      subst e
      have h1 := hv.len; have h2 := hu.len
      match cs, ds, hl1, hl2, hc with
      | [c], [e], _, _, hc =>
        have hv1 : vs.size = 1 := by simpa using h1.symm
        have hu1 : us.size = 1 := by simpa using h2.symm
        refine ⟨c, e, vs[0], us[0], rfl, rfl, ?_, ?_, hc.1, hv.rep 0 c _ rfl (by simp [hv1]), hu.rep 0 e _ rfl (by simp [hu1])⟩
        · exact one_ext hv1
        · exact one_ext hu1
    split at h
    · rename_i k e
      cases h
      obtain ⟨c, x, v, u, rfl, rfl, rfl, rfl, hk, r1, r2⟩ := one rfl
      have hva : ∀ v, valAt T t #[v] = v := fun v => by simp [valAt, e, Kd.isAgg]
      rw [hva, hva]
      cases c <;> cases x <;> simp only [cmpK] at hk
      rw [r1.int_inv, r2.int_inv]
      obtain ⟨rfl, rfl⟩ := hk
      rw [run_equalIn_int w D t _ _ _ _ (hi.kd_int e)]
      simp [peqs, peq]
    · rename_i e
      cases h
      obtain ⟨c, x, v, u, rfl, rfl, rfl, rfl, hk, r1, r2⟩ := one rfl
      have hva : ∀ v, valAt T t #[v] = v := fun v => by simp [valAt, e, Kd.isAgg]
      rw [hva, hva]
      cases c <;> cases x <;> simp only [cmpK] at hk
      rw [r1.bool_inv, r2.bool_inv, run_equalIn_bool' w D t _ _ (hi.kd_bool e)]
      simp [peqs, peq]
    · rename_i e
      cases h
      obtain ⟨c, x, v, u, rfl, rfl, rfl, rfl, hk, r1, r2⟩ := one rfl
      have hva : ∀ v, valAt T t #[v] = v := fun v => by simp [valAt, e, Kd.isAgg]
      rw [hva, hva]
      cases c <;> cases x <;> simp only [cmpK] at hk
      rw [r1.str_inv, r2.str_inv, run_equalIn_string w D t _ _ (hi.kd_str e)]
      simp [peqs, peq]
    · rename_i fs e
      rw [e] at hn
      simp only [Bool.and_eq_true, Bool.not_eq_true'] at hn
      obtain ⟨⟨hn1, hn2⟩, hn3⟩ := hn
      obtain ⟨ffs, hunder, hmap⟩ := hi.kd_struct e
      have hfo : P.fieldsOf t = ffs := by simp [Program.fieldsOf, hunder]
      have hva : ∀ v : Array Value, valAt T t v = .agg v := fun v => by simp [valAt, e, Kd.isAgg]
      rw [hva, hva, run_equalIn_struct w D t vs us (by rw [hfo]; exact hunder) hn1, hfo]
      rw [hfo] at hn2
      have hz := at_sized hT t
      rw [sizeOk, e] at hz
      have hvl := hv.len; have hul := hu.len
      have key : ∀ (fl : List Field) (gs : List (Nat × Nat)) (m : List Kd) (acc : Nat), (fl.map fun f => (f.offset, f.type)) = gs → fl.all (fun f => !decide (f.name = "_")) = true → (gs.all fun f => namesOk P T d f.2) = true →
          gs.foldr (fun f r => match leaves T d f.2, r with | some x, some y => some (x ++ y) | _, _ => none) (some []) = some m → placesOk T acc gs (T.at t).size = true → cmpL m (cs.drop acc) (ds.drop acc) →
          (Op.eqFields D vs us fl).run P w = .ok (peqs (cs.drop acc) (ds.drop acc)) w := by
        intro fl
        induction fl with
        | nil =>
          intro gs m acc hg _ _ hm hp hcm
          subst hg
          simp at hm; subst hm
          have := cmpL_len hcm
          have e1 : cs.drop acc = [] := List.length_eq_zero_iff.1 this.1
          have e2 : ds.drop acc = [] := List.length_eq_zero_iff.1 this.2
          rw [e1, e2]; simp [Op.eqFields, peqs]
        | cons f fl ihf =>
          intro gs m acc hg hnm hns hm hp hcm
          subst hg
          simp only [List.map_cons, List.foldr_cons] at hm
          split at hm
          · rename_i x y hx hy
            cases hm
            simp only [List.map_cons, placesOk, Bool.and_eq_true, Nat.beq_eq] at hp
            obtain ⟨rfl, hp⟩ := hp
            simp only [List.all_cons, Bool.and_eq_true, Bool.not_eq_true', decide_eq_false_iff_not] at hnm
            simp only [List.map_cons, List.all_cons, Bool.and_eq_true] at hns
            obtain ⟨hc1, hc2⟩ := cmpL_split hcm
            have hxl := leaves_len hT _ _ _ hx
            have hyl := leavesL_len hT d _ y _ _ hy hp
            have hkf := leaves_kd hx
            have hcml := cmpL_len hcm
            simp only [List.length_append, List.length_drop] at hcml
            rw [hxl] at hc1 hc2
            rw [List.drop_drop, List.drop_drop] at hc2
            have hpv := run_partT hF hkf (fun h => scalar_size hT h hkf) (vs := vs) (off := f.offset) (by omega) w
            have hpu := run_partT hF hkf (fun h => scalar_size hT h hkf) (vs := us) (off := f.offset) (by omega) w
            have h1 := ih f.type D x _ _ _ _ hx hns.1 (by omega) (hv.seg f.offset (T.at f.type).size) (hu.seg f.offset (T.at f.type).size) hc1
            have h2 := ihf _ y (f.offset + (T.at f.type).size) rfl hnm.2 hns.2 hy hp hc2
            have hs1 : cs.drop f.offset = (cs.drop f.offset).take (T.at f.type).size ++ cs.drop (f.offset + (T.at f.type).size) := by rw [← List.drop_drop, List.take_append_drop]
            have hs2 : ds.drop f.offset = (ds.drop f.offset).take (T.at f.type).size ++ ds.drop (f.offset + (T.at f.type).size) := by rw [← List.drop_drop, List.take_append_drop]
            rw [hs1, hs2, peqs_append _ _ _ _ (by simp; omega)]
            simp only [Op.eqFields, ne_eq, hnm.1, not_false_eq_true, if_true, Sem.run_bind, hpv, hpu, Result.andThen_ok, h1]
            cases peqs (List.take (T.at f.type).size (List.drop f.offset cs)) (List.take (T.at f.type).size (List.drop f.offset ds)) with
            | true => simpa using h2
            | false => simp
          · cases hm
      have := key ffs.toList fs l 0 hmap hn2 hn3 h hz (by simpa using hc)
      simpa using this
    · rename_i n e' e
      rw [e] at hn
      simp only [Option.map_eq_some_iff] at h
      obtain ⟨x, hx, rfl⟩ := h
      have hva : ∀ v : Array Value, valAt T t v = .agg v := fun v => by simp [valAt, e, Kd.isAgg]
      have hvl := hv.len; have hul := hu.len
      have hxl := leaves_len hT _ _ _ hx
      have hke := leaves_kd hx
      rw [flatten_replicate_len, hxl] at hl1 hl2
      have hso : (Go.sizeOf e').run P w = Result.ok (T.at e').size w := by
        obtain ⟨i2, d2, z2, hi2⟩ := tiOk_of hF e' hke
        rw [← hi2.size]; simp [Go.sizeOf, typeInfo, Sem.run_bind, hi2.info]
      rw [hva, hva, Op.equalIn]
      simp only [Sem.run_bind, run_underlying (hi.kd_array e), Result.andThen_ok, hso]
      simp only [Std.Legacy.Range.forIn_eq_forIn_range', Std.Legacy.Range.size]
      have key : ∀ (k j : Nat), j + k = n → cmpL (List.replicate k x).flatten (cs.drop (j * (T.at e').size)) (ds.drop (j * (T.at e').size)) →
          Sem.run P (forIn (List.range' j k) ((none, ()) : Option Bool × Unit) (fun (i : Nat) (_ : Option Bool × Unit) => (do
            let a ← part e' vs (i * (T.at e').size)
            let b ← part e' us (i * (T.at e').size)
            let r ← Op.equalIn D e' a b
            if (!r) = true then pure (ForInStep.done (some false, ())) else pure (ForInStep.yield (none, ())) : Sem (ForInStep (Option Bool × Unit)))) : Sem (Option Bool × Unit)) w =
            Result.ok (if peqs (cs.drop (j * (T.at e').size)) (ds.drop (j * (T.at e').size)) then (none, ()) else (some false, ())) w := by
        intro k
        induction k with
        | zero =>
          intro j _ hcm
          have := cmpL_len hcm
          have e1 : cs.drop (j * (T.at e').size) = [] := List.length_eq_zero_iff.1 (by simpa using this.1)
          have e2 : ds.drop (j * (T.at e').size) = [] := List.length_eq_zero_iff.1 (by simpa using this.2)
          rw [e1, e2]; simp [peqs]
        | succ k ihk =>
          intro j hj hcm
          rw [List.replicate_succ, List.flatten_cons] at hcm
          have hcml := cmpL_len hcm
          simp only [List.length_append, List.length_drop] at hcml
          obtain ⟨hc1, hc2⟩ := cmpL_split hcm
          rw [hxl] at hc1 hc2 hcml
          have hjs : j * (T.at e').size + (T.at e').size = (j + 1) * (T.at e').size := by rw [Nat.succ_mul]
          rw [List.drop_drop, List.drop_drop, hjs] at hc2
          have hb : (j + 1) * (T.at e').size ≤ n * (T.at e').size := Nat.mul_le_mul_right _ (by omega)
          have hpv := run_partT hF hke (fun h => scalar_size hT h hke) (vs := vs) (off := j * (T.at e').size) (by omega) w
          have hpu := run_partT hF hke (fun h => scalar_size hT h hke) (vs := us) (off := j * (T.at e').size) (by omega) w
          have h1 := ih e' D x _ _ _ _ hx hn (by omega) (hv.seg (j * (T.at e').size) (T.at e').size) (hu.seg (j * (T.at e').size) (T.at e').size) hc1
          have h2 := ihk (j + 1) (by omega) hc2
          have hs1 : cs.drop (j * (T.at e').size) = (cs.drop (j * (T.at e').size)).take (T.at e').size ++ cs.drop ((j + 1) * (T.at e').size) := by rw [← hjs, ← List.drop_drop, List.take_append_drop]
          have hs2 : ds.drop (j * (T.at e').size) = (ds.drop (j * (T.at e').size)).take (T.at e').size ++ ds.drop ((j + 1) * (T.at e').size) := by rw [← hjs, ← List.drop_drop, List.take_append_drop]
          rw [hs1, hs2, peqs_append _ _ _ _ (by simp; omega), List.range'_succ]
          simp only [List.forIn_cons, Sem.run_bind, hpv, hpu, Result.andThen_ok, h1]
          cases peqs (List.take (T.at e').size (List.drop (j * (T.at e').size) cs)) (List.take (T.at e').size (List.drop (j * (T.at e').size) ds)) with
          | true => simpa using h2
          | false => simp
      have hn0 : (n - 0 + 1 - 1) / 1 = n := by simp
      rw [hn0]
      have h3 := key n 0 (by omega) (by simpa using hc)
      rw [Nat.zero_mul, List.drop_zero, List.drop_zero] at h3
      refine Eq.trans (congrArg (fun r => Result.andThen r _) h3) ?_
      cases peqs cs ds <;> rfl
    · cases h

def eqOkT (P : Program) (T : Tab) (t : Nat) (ti : Ti) : Bool :=
  ti.eqL.isEmpty || (ti.kd.isAgg && decide (leaves T 8 t = some ti.eqL) && namesOk P T 8 t && !P.eqGuardType P.depth t)
def eqsOkT (P : Program) (T' : Tab) : Nat → Tab → Bool
  | _, [] => true
  | t, ti :: r => eqOkT P T' t ti && eqsOkT P T' (t + 1) r

theorem eqsOkT_at {P : Program} {T' : Tab} : ∀ (T : Tab) (k t : Nat), eqsOkT P T' k T = true → t < T.length → eqOkT P T' (k + t) (T.getD t ⟨.other, 0, 0, .undef, []⟩) = true
  | [], _, _, _, h => by simp at h
  | ti :: r, k, 0, h, _ => by simp [eqsOkT] at h; simpa using h.1
  | ti :: r, k, t + 1, h, hl => by
    simp [eqsOkT] at h
    have := eqsOkT_at r (k + 1) t h.2 (by simpa using hl)
    rw [show k + 1 + t = k + (t + 1) by omega] at this
    simpa using this

theorem EqSound.check (hF : tabFits P T 0 T = true) (hT : tabSized T = true) (h : eqsOkT P T 0 T = true) : EqSound P T := by
  intro t ht w op x y cs ds vs us μ ro h1 h2 h3 h4 hc
  have hlt : t < T.length := by
    rcases Nat.lt_or_ge t T.length with h | h
    · exact h
    · exfalso; apply ht; simp [Tab.at, List.getD, List.getElem?_eq_none h]
  have hk := eqsOkT_at T 0 t h hlt
  rw [Nat.zero_add] at hk
  change eqOkT P T t (T.at t) = true at hk
  have hne : (T.at t).eqL.isEmpty = false := by cases e : (T.at t).eqL with | nil => exact absurd e ht | cons => rfl
  simp only [eqOkT, hne, Bool.false_or, Bool.and_eq_true, decide_eq_true_eq, Bool.not_eq_true'] at hk
  obtain ⟨⟨⟨k1, k2⟩, k3⟩, k4⟩ := hk
  have := equal_cells hF hT 8 t 10000 _ cs ds vs us k2 k3 (by omega) ⟨h1, h3⟩ ⟨h2, h4⟩ hc
  rw [valAt, valAt, if_pos k1, if_pos k1] at this
  exact ⟨run_eqGuard_agg w op t x y vs us k4, this⟩

end
end Pv
