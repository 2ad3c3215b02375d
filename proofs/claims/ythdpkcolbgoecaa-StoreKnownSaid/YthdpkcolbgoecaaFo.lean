/- The frames fourth part: operations that leave memory alone. -/
import Derived.Test.YthdpkcolbgoecaaFt
import Derived.Laws.Cells

namespace Pv
open Go

/-- == of structs and arrays goes as the table says. -/
def EqSound (P : Program) (T : Tab) : Prop :=
  ∀ t, (T.at t).eqL ≠ [] → ∀ (w : World) (op : BinOp) (x y : Operand) (cs ds : List PV) (vs us : Array Value) (μ : Nat → Option Nat) (ro : Nat → Prop),
    cs.length = vs.size → ds.length = us.size → (∀ (i : Nat) c v, cs[i]? = some c → vs[i]? = some v → Rep T w μ ro c v) → (∀ (i : Nat) c v, ds[i]? = some c → us[i]? = some v → Rep T w μ ro c v) → cmpL (T.at t).eqL cs ds →
    (eqGuard op t x y (.agg vs) (.agg us)).run P w = .ok () w ∧ (Op.equal t (.agg vs) (.agg us)).run P w = .ok (peqs cs ds) w

section
variable {P : Program} {T : Tab} {w : World} {μ : Nat → Option Nat} {ro : Nat → Prop}

theorem Rep.bool_inv {b : Bool} {v : Value} (h : Rep T w μ ro (.bool b) v) : v = .bool b := by
  cases h with
  | bool => rfl
  | agg _ _ h1 => simp [isAggV] at h1
theorem Rep.int_inv {k : IntKind} {n : Int} {v : Value} (h : Rep T w μ ro (.int k n) v) : v = .int k n := by
  cases h with
  | int => rfl
  | agg _ _ h1 => simp [isAggV] at h1
theorem Rep.str_inv {s : ByteArray} {v : Value} (h : Rep T w μ ro (.str s) v) : v = .string s := by
  cases h with
  | str => rfl
  | agg _ _ h1 => simp [isAggV] at h1
theorem Rep.nilsl_inv {v : Value} (h : Rep T w μ ro .nilsl v) : v = .slice none 0 0 := by
  cases h with
  | nilsl => rfl
  | agg _ _ h1 => simp [isAggV] at h1
theorem Rep.nilp_inv {v : Value} (h : Rep T w μ ro .nilp v) : v = .pointer none := by
  cases h with
  | nilp => rfl
  | agg _ _ h1 => simp [isAggV] at h1
theorem Rep.nilf_inv {v : Value} (h : Rep T w μ ro .nilf v) : v = .nilFunc := by
  cases h with
  | nilf => rfl
  | agg _ _ h1 => simp [isAggV] at h1
theorem Rep.nilm_inv {v : Value} (h : Rep T w μ ro .nilm v) : v = .map none := by
  cases h with
  | nilm => rfl
  | agg _ _ h1 => simp [isAggV] at h1
theorem Rep.mapr_inv {h : Nat} {v : Value} (hr : Rep T w μ ro (.mapr h) v) : ∃ b, v = .map (some b) ∧ μ h = some b := by
  cases hr with
  | mapr _ b h1 => exact ⟨b, rfl, h1⟩
  | agg _ _ h1 => simp [isAggV] at h1
theorem Rep.dmap_inv {kt et : Nat} {en : List PV} {v : Value} (hr : Rep T w μ ro (.dmap kt et en) v) : (v = .map none ∧ en = []) ∨ ∃ b es clock, v = .map (some b) ∧ ro b ∧ w.heap[b]? = some (.map es clock) ∧ en.length = es.size ∧
    EntOk T kt et en ∧ BornOk es clock ∧ ∀ (i : Nat) k v e, en[i]? = some (.tup [k, v]) → es[i]? = some e → Rep T w μ ro k e.key ∧ Rep T w μ ro v e.val := by
  cases hr with
  | dmap _ _ _ b es clock h1 h2 h3 h4 h5 h6 h7 => exact .inr ⟨b, es, clock, rfl, h1, h2, h3, h4, h7, fun i k v e hx he => ⟨h5 i k v e hx he, h6 i k v e hx he⟩⟩
  | dmapE => exact .inl ⟨rfl, rfl⟩
  | agg _ _ h1 => simp [isAggV] at h1
theorem Rep.tup_inv {xs : List PV} {v : Value} (h : Rep T w μ ro (.tup xs) v) : ∃ vs, v = .tuple vs ∧ xs.length = vs.size ∧ ∀ (i : Nat) x v, xs[i]? = some x → vs[i]? = some v → Rep T w μ ro x v := by
  cases h with
  | tup _ vs h1 h2 => exact ⟨vs, rfl, h1, h2⟩
  | agg _ _ h1 => simp [isAggV] at h1
theorem Rep.fn_inv {f : FuncId} {cs : List PV} {v : Value} (h : Rep T w μ ro (.fn f cs) v) : ∃ vs, v = .func (.func f) #[] vs ∧ cs.length = vs.size ∧ ∀ (i : Nat) x v, cs[i]? = some x → vs[i]? = some v → Rep T w μ ro x v := by
  cases h with
  | fn _ _ vs h1 h2 => exact ⟨vs, rfl, h1, h2⟩
  | agg _ _ h1 => simp [isAggV] at h1
theorem Rep.agg_inv {x : PV} {v : Value} (hx : isAggV x = true) (h : Rep T w μ ro x v) : ∃ vs, v = .agg vs ∧ Shp x ∧ (flat x).length = vs.size ∧ (∀ (i : Nat) c v, (flat x)[i]? = some c → vs[i]? = some v → Rep T w μ ro c v) ∧ ∀ c ∈ flat x, cellC c = true := by
  cases h <;> first | (simp [isAggV] at hx; done) | skip
  rename_i vs h1 h2 h3 h4 h5
  exact ⟨vs, rfl, h2, h3, h4, h5⟩
theorem Rep.list_inv {ty : Nat} {xs : List PV} {v : Value} (h : Rep T w μ ro (.list ty xs) v) : ∃ a cap, v = .slice a xs.length cap ∧ xs.length ≤ cap ∧ RowOk T ty xs ∧
    (xs ≠ [] → ∃ b off, a = some ⟨b, off, none⟩ ∧ ro b ∧ ∀ (k : Nat) c, (flats xs)[k]? = some c → ∃ v, w.cell? ⟨b, off + k, none⟩ = some v ∧ Rep T w μ ro c v) := by
  cases h with
  | list _ _ b off cap val h1 h2 h3 h4 h5 =>
    exact ⟨_, cap, rfl, h1, h2, fun _ => ⟨b, off, rfl, h3, fun k c hc => ⟨val k, h4 k (List.getElem?_eq_some_iff.1 hc).1, h5 k c hc⟩⟩⟩
  | listE _ a cap => exact ⟨a, cap, rfl, Nat.zero_le _, fun x hx => by simp at hx, fun h => absurd rfl h⟩
  | agg _ _ h1 => simp [isAggV] at h1

theorem intArith_run (op : BinOp) (k : IntKind) (a b : Int) (w : World) :
    (Op.intArith op k a b).run P w = match op with
      | .add => .ok (.int k (k.wrap (a + b))) w
      | .sub => .ok (.int k (k.wrap (a - b))) w
      | .mul => .ok (.int k (k.wrap (a * b))) w
      | _ => (Op.intArith op k a b).run P w := by
  cases op <;> rfl

theorem evIntBin_sound {op : BinOp} {k k' : IntKind} {a b : Int} {K : PV → Prop} (h : evIntBin op k k' a b K) (t : TypeId) (x y : Operand) :
    ∃ r, ((do eqGuard op t x y (.int k a) (.int k' b); binOp op t (.int k a) (.int k' b)) : Sem Value).run P w = .ok r w ∧ ∃ pv, K pv ∧ Rep T w μ ro pv r := by
  have hg : (eqGuard op t x y (.int k a) (.int k' b)).run P w = .ok () w := by cases op <;> rfl
  simp only [Sem.run_bind, hg, Result.andThen_ok]
  unfold evIntBin at h
  cases op
  case shl =>
    obtain ⟨h0, hK⟩ := h
    refine ⟨_, ?_, _, hK, .int _ _⟩
    simp only [binOp, Op.shift]; rw [if_neg (by omega)]; rfl
  case shr =>
    obtain ⟨h0, hK⟩ := h
    refine ⟨_, ?_, _, hK, .int _ _⟩
    simp only [binOp, Op.shift]; rw [if_neg (by omega)]; rfl
  all_goals
    by_cases hk : k = k'
    · subst hk
      simp only [decide_true, cond_true] at h
      first
        | (refine ⟨_, ?_, _, h, .int _ _⟩; simp only [binOp, ne_eq, not_true_eq_false, if_false]; rfl)
        | (refine ⟨_, ?_, _, h, .bool _⟩; simp only [binOp, ne_eq, not_true_eq_false, if_false]; rfl)
        | (obtain ⟨h0, hK⟩ := h; refine ⟨_, ?_, _, hK, .int _ _⟩; simp only [binOp, ne_eq, not_true_eq_false, if_false, Op.intDiv, h0]; rfl)
    · simp [hk] at h


theorem evStrBin_sound {op : BinOp} {a b : ByteArray} {K : PV → Prop} (h : evStrBin op a b K) (t : TypeId) (x y : Operand) :
    ∃ r, ((do eqGuard op t x y (.string a) (.string b); binOp op t (.string a) (.string b)) : Sem Value).run P w = .ok r w ∧ ∃ pv, K pv ∧ Rep T w μ ro pv r := by
  have hg : (eqGuard op t x y (.string a) (.string b)).run P w = .ok () w := by cases op <;> rfl
  have hb : binOp op t (.string a) (.string b) = Op.stringOp op a b := by cases op <;> rfl
  simp only [Sem.run_bind, hg, Result.andThen_ok, hb]
  unfold evStrBin at h
  cases op <;> first | (exact h.elim) | skip
  case add =>
    obtain ⟨h0, hK⟩ := h
    refine ⟨_, ?_, _, hK, .str _⟩
    simp only [Op.stringOp]
    rw [if_neg]
    · rfl
    · simp only [maxRoom] at h0
      have : IntKind.i64.max = 9223372036854775807 := by rfl
      rw [this]; omega
  all_goals exact ⟨_, rfl, _, h, .bool _⟩

theorem evKnown_eq {op : BinOp} {b : Bool} {K : PV → Prop} (h : evKnown op b K) : (op = .eql ∧ K (.bool b)) ∨ (op = .neq ∧ K (.bool (!b))) := by
  cases op <;> simp_all [evKnown]

/-- A comparison that the model answers at once. -/
theorem known_sound {op : BinOp} {b : Bool} {K : PV → Prop} (h : evKnown op b K) (t : TypeId) (x y : Operand) (v u : Value)
    (hg : ∀ op, (eqGuard op t x y v u).run P w = .ok () w) (he : (Op.equal t v u).run P w = .ok b w)
    (hb : binOp .eql t v u = do pure (.bool (← Op.equal t v u))) (hb' : binOp .neq t v u = do pure (.bool (!(← Op.equal t v u)))) :
    ∃ r, ((do eqGuard op t x y v u; binOp op t v u) : Sem Value).run P w = .ok r w ∧ ∃ pv, K pv ∧ Rep T w μ ro pv r := by
  rcases evKnown_eq h with ⟨rfl, hK⟩ | ⟨rfl, hK⟩
  · exact ⟨.bool b, by simp [hg, hb, he], _, hK, .bool _⟩
  · exact ⟨.bool (!b), by simp [hg, hb', he], _, hK, .bool _⟩


theorem TiOk.kd_bool {t : Nat} {ti : Ti} {i : TypeInfo} {d : TypeDesc} {z : Value} (h : TiOk P T t ti i d z) (e : ti.kd = .bool) : P.underlying t = some .bool := by
  have := h.kd; rw [e] at this; rw [h.under]; cases d <;> simp_all [kdFits]
theorem TiOk.kd_slice {t e' : Nat} {ti : Ti} {i : TypeInfo} {d : TypeDesc} {z : Value} (h : TiOk P T t ti i d z) (e : ti.kd = .slice e') : P.underlying t = some (.slice e') := by
  have := h.kd; rw [e] at this; rw [h.under]; cases d <;> simp_all [kdFits]
theorem TiOk.kd_ptr {t e' : Nat} {ti : Ti} {i : TypeInfo} {d : TypeDesc} {z : Value} (h : TiOk P T t ti i d z) (e : ti.kd = .ptr e') : P.underlying t = some (.pointer e') := by
  have := h.kd; rw [e] at this; rw [h.under]; cases d <;> simp_all [kdFits]
theorem TiOk.kd_array {t n e' : Nat} {ti : Ti} {i : TypeInfo} {d : TypeDesc} {z : Value} (h : TiOk P T t ti i d z) (e : ti.kd = .array n e') : P.underlying t = some (.array n e') := by
  have := h.kd; rw [e] at this; rw [h.under]; cases d <;> simp_all [kdFits]
theorem TiOk.kd_map {t k' e' : Nat} {ti : Ti} {i : TypeInfo} {d : TypeDesc} {z : Value} (h : TiOk P T t ti i d z) (e : ti.kd = .map k' e') : P.underlying t = some (.map k' e') := by
  have := h.kd; rw [e] at this; rw [h.under]; cases d <;> simp_all [kdFits]
theorem TiOk.kd_str {t : Nat} {ti : Ti} {i : TypeInfo} {d : TypeDesc} {z : Value} (h : TiOk P T t ti i d z) (e : ti.kd = .str) : P.underlying t = some .string := by
  have := h.kd; rw [e] at this; rw [h.under]; cases d <;> simp_all [kdFits]
theorem TiOk.kd_int {t : Nat} {k : IntKind} {ti : Ti} {i : TypeInfo} {d : TypeDesc} {z : Value} (h : TiOk P T t ti i d z) (e : ti.kd = .int k) : P.underlying t = some (.int k) := by
  have := h.kd; rw [e] at this; rw [h.under]; cases d <;> simp_all [kdFits]
theorem TiOk.kd_func {t : Nat} {ti : Ti} {i : TypeInfo} {d : TypeDesc} {z : Value} (h : TiOk P T t ti i d z) (e : ti.kd = .func) : ∃ a b c, P.underlying t = some (.func a b c) := by
  have := h.kd; rw [e] at this; rw [h.under]; cases d <;> simp_all [kdFits]
theorem TiOk.kd_struct {t : Nat} {l : List (Nat × Nat)} {ti : Ti} {i : TypeInfo} {d : TypeDesc} {z : Value} (h : TiOk P T t ti i d z) (e : ti.kd = .struct l) : ∃ fs, P.underlying t = some (.struct fs) ∧ (fs.toList.map fun f => (f.offset, f.type)) = l := by
  have := h.kd; rw [e] at this; rw [h.under]; cases d <;> simp_all [kdFits]

theorem under_of (hT : tabFits P T 0 T = true) {t : Nat} {kd : Kd} (e : (T.at t).kd = kd) (hk : kd ≠ .other) : ∃ i d z, TiOk P T t (T.at t) i d z := tiOk_of hT t (by rw [e]; exact hk)

theorem guard_plain {op : BinOp} {t : TypeId} {x y : Operand} {v u : Value} (h1 : v ≠ .nilIface) (h2 : ∀ c, v ≠ .agg c) : (eqGuard op t x y v u).run P w = .ok () w := by
  cases v <;> first | (exact absurd rfl h1) | (exact absurd rfl (h2 _)) | (cases op <;> rfl)

theorem equal_depth (t : TypeId) (v u : Value) : Op.equal t v u = Op.equalIn (9999 + 1) t v u := rfl

theorem evAggEq_sound (hE : EqSound P T) {op : BinOp} {t : Nat} {cs ds : List PV} {vs us : Array Value} {K : PV → Prop} (h : evAggEq (T.at t).eqL op cs ds K) (xo yo : Operand)
    (h3 : cs.length = vs.size) (h3' : ds.length = us.size) (h4 : ∀ (i : Nat) c v, cs[i]? = some c → vs[i]? = some v → Rep T w μ ro c v) (h4' : ∀ (i : Nat) c v, ds[i]? = some c → us[i]? = some v → Rep T w μ ro c v) :
    ∃ r, ((do eqGuard op t xo yo (.agg vs) (.agg us); binOp op t (.agg vs) (.agg us)) : Sem Value).run P w = .ok r w ∧ ∃ pv, K pv ∧ Rep T w μ ro pv r := by
  unfold evAggEq at h
  cases he : (T.at t).eqL with
  | nil => simp [he] at h
  | cons k l =>
    have hne : (T.at t).eqL ≠ [] := by rw [he]; simp
    have hie : (!(T.at t).eqL.isEmpty) = true := by rw [he]; rfl
    simp only [hie, cond_true] at h
    cases op <;> first | (exact h.elim) | skip
    · have := hE t hne w .eql xo yo _ _ vs us μ ro h3 h3' h4 h4' h.1
      exact ⟨_, by simp only [Sem.run_bind, this.1, Result.andThen_ok, binOp, this.2]; rfl, _, h.2, .bool _⟩
    · have := hE t hne w .neq xo yo _ _ vs us μ ro h3 h3' h4 h4' h.1
      exact ⟨_, by simp only [Sem.run_bind, this.1, Result.andThen_ok, binOp, this.2]; rfl, _, h.2, .bool _⟩

theorem evBin_sound (hT : tabFits P T 0 T = true) (hE : EqSound P T) {op : BinOp} {t : Nat} {x y : PV} {v u : Value} {K : PV → Prop} (h : evBin (T.at t) op x y K) (xo yo : Operand)
    (hx : Rep T w μ ro x v) (hy : Rep T w μ ro y u) :
    ∃ r, ((do eqGuard op t xo yo v u; binOp op t v u) : Sem Value).run P w = .ok r w ∧ ∃ pv, K pv ∧ Rep T w μ ro pv r := by
  unfold evBin at h
  split at h
  · obtain rfl := hx.int_inv; obtain rfl := hy.int_inv; exact evIntBin_sound h t xo yo
  · obtain rfl := hx.str_inv; obtain rfl := hy.str_inv; exact evStrBin_sound h t xo yo
  · obtain rfl := hx.bool_inv; obtain rfl := hy.bool_inv
    split at h
    · rename_i a b e
      obtain ⟨i, d, z, hi⟩ := under_of hT e (by simp)
      have hu := hi.kd_bool e
      exact known_sound h t xo yo _ _ (fun _ => guard_plain (by simp) (by simp)) (by rw [equal_depth, Op.equalIn]; simp [run_underlying hu]) rfl rfl
    · exact h.elim
  · rename_i fs gs
    obtain ⟨vs, rfl, -, h3, h4, -⟩ := hx.agg_inv rfl
    obtain ⟨us, rfl, -, h3', h4', -⟩ := hy.agg_inv rfl
    exact evAggEq_sound hE h xo yo h3 h3' h4 h4'
  · rename_i n xs m ys
    obtain ⟨vs, rfl, -, h3, h4, -⟩ := hx.agg_inv rfl
    obtain ⟨us, rfl, -, h3', h4', -⟩ := hy.agg_inv rfl
    rw [flat] at h3 h4
    rw [flat] at h3' h4'
    exact evAggEq_sound hE h xo yo h3 h3' h4 h4'
  · obtain rfl := hy.nilsl_inv
    rename_i ty xs
    obtain ⟨a, cap, rfl, -, -, hne⟩ := hx.list_inv
    split at h
    · rename_i e' e
      obtain ⟨i, d, z, hi⟩ := under_of hT e (by simp)
      have hu := hi.kd_slice e
      refine known_sound (h a.isNone ?_) t xo yo _ _ (fun _ => guard_plain (by simp) (by simp)) ?_ ?_ ?_
      · intro hn
        by_cases hx : xs = []
        · exact hx
        · obtain ⟨b, off, rfl, -⟩ := hne hx; simp at hn
      · cases a <;> (rw [equal_depth, Op.equalIn]; simp [run_underlying hu])
      · rfl
      · rfl
    · exact h.elim
  · obtain rfl := hx.nilsl_inv; obtain rfl := hy.nilsl_inv
    split at h
    · rename_i e' e
      obtain ⟨i, d, z, hi⟩ := under_of hT e (by simp)
      have hu := hi.kd_slice e
      exact known_sound h t xo yo _ _ (fun _ => guard_plain (by simp) (by simp)) (by rw [equal_depth, Op.equalIn]; simp [run_underlying hu]) rfl rfl
    · exact h.elim
  · obtain rfl := hx.nilp_inv; obtain rfl := hy.nilp_inv
    split at h
    · rename_i e' e
      obtain ⟨i, d, z, hi⟩ := under_of hT e (by simp)
      have hu := hi.kd_ptr e
      exact known_sound h t xo yo _ _ (fun _ => guard_plain (by simp) (by simp)) (by rw [equal_depth, Op.equalIn]; simp [run_underlying hu]) rfl rfl
    · exact h.elim
  · obtain rfl := hy.nilp_inv
    split at h
    · rename_i e' e
      obtain ⟨i, d, z, hi⟩ := under_of hT e (by simp)
      have hu := hi.kd_ptr e
      obtain ⟨a, rfl⟩ : ∃ a, v = .pointer (some a) := by
        cases hx with
        | ptr => exact ⟨_, rfl⟩
        | agg _ _ h1 => simp [isAggV] at h1
      exact known_sound h t xo yo _ _ (fun _ => guard_plain (by simp) (by simp)) (by rw [equal_depth, Op.equalIn]; simp [run_underlying hu]) rfl rfl
    · exact h.elim
  · obtain rfl := hy.nilp_inv
    split at h
    · rename_i e' e
      obtain ⟨i, d, z, hi⟩ := under_of hT e (by simp)
      have hu := hi.kd_ptr e
      obtain ⟨a, rfl⟩ : ∃ a, v = .pointer (some a) := by
        cases hx with
        | vptr => exact ⟨_, rfl⟩
        | agg _ _ h1 => simp [isAggV] at h1
      exact known_sound h t xo yo _ _ (fun _ => guard_plain (by simp) (by simp)) (by rw [equal_depth, Op.equalIn]; simp [run_underlying hu]) rfl rfl
    · exact h.elim
  · obtain rfl := hx.nilf_inv; obtain rfl := hy.nilf_inv
    split at h
    · rename_i e
      obtain ⟨i, d, z, hi⟩ := under_of hT e (by simp)
      obtain ⟨_, _, _, hu⟩ := hi.kd_func e
      exact known_sound h t xo yo _ _ (fun _ => guard_plain (by simp) (by simp)) (by rw [equal_depth, Op.equalIn]; simp [run_underlying hu]) rfl rfl
    · exact h.elim
  · obtain rfl := hy.nilf_inv
    split at h
    · rename_i e
      obtain ⟨i, d, z, hi⟩ := under_of hT e (by simp)
      obtain ⟨_, _, _, hu⟩ := hi.kd_func e
      obtain ⟨vs, rfl, -⟩ := hx.fn_inv
      exact known_sound h t xo yo _ _ (fun _ => guard_plain (by simp) (by simp)) (by rw [equal_depth, Op.equalIn]; simp [run_underlying hu]) rfl rfl
    · exact h.elim
  · obtain rfl := hx.nilm_inv; obtain rfl := hy.nilm_inv
    split at h
    · rename_i k' e' e
      obtain ⟨i, d, z, hi⟩ := under_of hT e (by simp)
      have hu := hi.kd_map e
      exact known_sound h t xo yo _ _ (fun _ => guard_plain (by simp) (by simp)) (by rw [equal_depth, Op.equalIn]; simp [run_underlying hu]) rfl rfl
    · exact h.elim
  · obtain rfl := hy.nilm_inv
    split at h
    · rename_i k' e' e
      obtain ⟨i, d, z, hi⟩ := under_of hT e (by simp)
      have hu := hi.kd_map e
      obtain ⟨b, rfl, -⟩ := hx.mapr_inv
      exact known_sound h t xo yo _ _ (fun _ => guard_plain (by simp) (by simp)) (by rw [equal_depth, Op.equalIn]; simp [run_underlying hu]) rfl rfl
    · exact h.elim
  · obtain rfl := hy.nilm_inv
    rename_i kt et en
    split at h
    · rename_i k' e' e
      obtain ⟨i, d, z, hi⟩ := under_of hT e (by simp)
      have hu := hi.kd_map e
      rcases hx.dmap_inv with ⟨rfl, hen⟩ | ⟨b, es, clock, rfl, -⟩
      · exact known_sound (h true fun _ => hen) t xo yo _ _ (fun _ => guard_plain (by simp) (by simp)) (by rw [equal_depth, Op.equalIn]; simp [run_underlying hu]) rfl rfl
      · exact known_sound (h false (by simp)) t xo yo _ _ (fun _ => guard_plain (by simp) (by simp)) (by rw [equal_depth, Op.equalIn]; simp [run_underlying hu]) rfl rfl
    · exact h.elim
  · exact h.elim

theorem evUn_sound {op : UnOp} {x : PV} {v : Value} {K : PV → Prop} (h : evUn op x K) (hx : Rep T w μ ro x v) : ∃ r, (Op.unary op v).run P w = .ok r w ∧ ∃ pv, K pv ∧ Rep T w μ ro pv r := by
  unfold evUn at h
  split at h
  · obtain rfl := hx.bool_inv; exact ⟨_, rfl, _, h, .bool _⟩
  · obtain rfl := hx.int_inv; exact ⟨_, rfl, _, h, .int _ _⟩
  · obtain rfl := hx.int_inv
    rename_i k n
    refine ⟨_, rfl, _, h, ?_⟩
    have : (cond k.signed (-1) k.max : Int) = if k.signed then -1 else k.max := by cases k <;> rfl
    rw [this]
    exact .int _ _
  · exact h.elim

end
end Pv
