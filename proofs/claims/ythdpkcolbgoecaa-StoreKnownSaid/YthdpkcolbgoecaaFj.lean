/- The frames part on maps, and on copy. -/
import Derived.Test.YthdpkcolbgoecaaFz
import Derived.Laws.Strings
import Derived.Laws.StructEq

namespace Pv
open Go Go.ChangeMaps

section
variable {P : Program} {T : Tab} {hb : Nat} {w : World} {μ : Nat → Option Nat} {ro : Nat → Prop} {L : Heap} {K : PV → Ups → Prop}

theorem shp_of_rep {x : PV} {v : Value} (h : Rep T w μ ro x v) : Shp x := by
  cases ha : isAggV x with
  | true => obtain ⟨vs, -, hs, -⟩ := h.agg_inv ha; exact hs
  | false => cases x <;> first | trivial | simp [isAggV] at ha


theorem out_obj {w' : World} {o : Obj} {k : Blk} {pv : PV} {v : Value} (h : Grew w w' o) (hL : HRel T w μ ro L) (hf : Fresh hb μ L) (hk : BRel T w' (muNew μ hb w.heap.size) ro (some w.heap.size) k)
    (hr : Rep T w' (muNew μ hb w.heap.size) ro pv v) (hK : K pv [(hb, k)]) : Out T hb L μ ro w K v w' := by
  have hmu := (hf hb (Nat.le_refl _) (by omega)).2
  have hkeep := h.keeps hL hmu
  refine ⟨_, _, muNew μ hb w.heap.size, hK, hr, h.hrel hL hmu hk, hkeep, h.chg, fun x hx => ?_, fun x hx hg => ?_, own_new _ _⟩
  · unfold muNew; rw [if_neg (by omega)]
  · simp only [upds, upd]
    have : Nat.beq x hb = false := nbeq (by omega)
    rw [this]; exact hg

theorem makeMap_sound (hF : tabFits P T 0 T = true) {t : Nat} {r : Option PV} {vr : Option Value} (h : evMakeMap T hb t r K) (hr : RepB T w μ ro r vr) (hL : HRel T w μ ro L) (hfr : Fresh hb μ L) :
    ∃ v w', (Instr.makeMap t vr).run P w = .ok v w' ∧ Out T hb L μ ro w K v w' := by
  unfold evMakeMap at h
  split at h
  · rename_i kt et ek
    obtain ⟨i, d, z, hi⟩ := under_of hF ek (by simp)
    have hu := hi.kd_map ek
    have fin : K (.mapr hb) [(hb, .map true kt et [])] → Out T hb L μ ro w K (.map (some w.heap.size)) { w with heap := w.heap.push (.map #[] 0) } := fun hK =>
      out_obj (k := .map true kt et []) (pv := .mapr hb) (grew_push _) hL hfr ⟨(fun x hx => by simp at hx), w.heap.size, rfl, (fun h => by cases h), #[], 0, by simp, rfl, ⟨(fun e he => by simp at he), by simp⟩, (fun i k v e hx => by simp at hx)⟩ (.mapr _ _ (by unfold muNew; rw [if_pos rfl])) hK
    split at h
    · cases vr with
      | none => exact ⟨_, _, rfl, fin h⟩
      | some _ => exact hr.elim
    · cases vr with
      | none => exact hr.elim
      | some x =>
        have hx : x = _ := Rep.int_inv hr
        subst hx
        refine ⟨_, _, ?_, fin h⟩
        simp [Instr.makeMap, run_underlying hu, asInt, asIntOf]
    · exact h.elim
  · exact h.elim

/-! Entries, one by one. -/

def ERel (T : Tab) (w : World) (μ : Nat → Option Nat) (ro : Nat → Prop) (kt et : Nat) : List PV → List MapEntry → Prop
  | [], [] => True
  | x :: r, e :: es => (∃ k v, x = .tup [k, v] ∧ isKey T kt k = true ∧ Shp v ∧ fits T et v = true ∧ pureV v ∧ Rep T w μ ro k e.key ∧ Rep T w μ ro v e.val) ∧ ERel T w μ ro kt et r es
  | _, _ => False

theorem ERel.of {kt et : Nat} : ∀ {en : List PV} {es : List MapEntry}, EntOk T kt et en → en.length = es.length →
    (∀ (i : Nat) k v e, en[i]? = some (.tup [k, v]) → es[i]? = some e → Rep T w μ ro k e.key ∧ Rep T w μ ro v e.val) → ERel T w μ ro kt et en es
  | [], [], _, _, _ => trivial
  | [], _ :: _, _, h, _ => by simp at h
  | _ :: _, [], _, h, _ => by simp at h
  | x :: r, e :: es, h1, h2, h3 => by
    obtain ⟨k, v, rfl, h4, h5, h6, h7⟩ := h1 x (by simp)
    obtain ⟨h8, h9⟩ := h3 0 k v e rfl rfl
    exact ⟨⟨k, v, rfl, h4, h5, h6, h7, h8, h9⟩, ERel.of (fun y hy => h1 y (by simp [hy])) (by simpa using h2) (fun i k v e hx he => h3 (i + 1) k v e (by simpa using hx) (by simpa using he))⟩

theorem ERel.to {kt et : Nat} : ∀ {en : List PV} {es : List MapEntry}, ERel T w μ ro kt et en es → EntOk T kt et en ∧ en.length = es.length ∧
    (∀ (i : Nat) k v e, en[i]? = some (.tup [k, v]) → es[i]? = some e → Rep T w μ ro k e.key ∧ Rep T w μ ro v e.val)
  | [], [], _ => ⟨fun x hx => by simp at hx, rfl, fun i k v e hx => by simp at hx⟩
  | [], _ :: _, h => h.elim
  | _ :: _, [], h => h.elim
  | x :: r, e :: es, ⟨⟨k, v, hx, h4, h5, h6, h7, h8, h9⟩, h⟩ => by
    obtain ⟨a, b, c⟩ := ERel.to h
    refine ⟨fun y hy => ?_, by simp [b], fun i k' v' e' hx' he' => ?_⟩
    · rcases List.mem_cons.1 hy with rfl | hy
      · exact ⟨k, v, hx, h4, h5, h6, h7⟩
      · exact a y hy
    · cases i with
      | zero =>
        simp only [List.getElem?_cons_zero, Option.some.injEq] at hx' he'
        subst he'
        rw [hx] at hx'
        simp only [PV.tup.injEq, List.cons.injEq, and_true] at hx'
        obtain ⟨rfl, rfl⟩ := hx'
        exact ⟨h8, h9⟩
      | succ i => exact c i k' v' e' (by simpa using hx') (by simpa using he')

theorem ERel.append {kt et : Nat} : ∀ {en en' : List PV} {es es' : List MapEntry}, ERel T w μ ro kt et en es → ERel T w μ ro kt et en' es' → ERel T w μ ro kt et (en ++ en') (es ++ es')
  | [], _, [], _, _, h => h
  | [], _, _ :: _, _, h, _ => h.elim
  | _ :: _, _, [], _, h, _ => h.elim
  | _ :: _, _, _ :: _, _, h, h' => ⟨h.1, h.2.append h'⟩

theorem ERel.eraseIdx {kt et : Nat} : ∀ {en : List PV} {es : List MapEntry} (j : Nat), ERel T w μ ro kt et en es → ERel T w μ ro kt et (en.eraseIdx j) (es.eraseIdx j)
  | [], [], _, _ => trivial
  | [], _ :: _, _, h => h.elim
  | _ :: _, [], _, h => h.elim
  | _ :: _, _ :: _, 0, h => h.2
  | _ :: _, _ :: _, j + 1, h => ⟨h.1, h.2.eraseIdx j⟩

theorem ERel.set {kt et : Nat} {k v : PV} : ∀ {en : List PV} {es : List MapEntry} (j : Nat) {f : MapEntry → MapEntry}, ERel T w μ ro kt et en es →
    (∀ e, isKey T kt k = true ∧ Shp v ∧ fits T et v = true ∧ pureV v ∧ Rep T w μ ro k (f e).key ∧ Rep T w μ ro v (f e).val) → ERel T w μ ro kt et (en.set j (.tup [k, v])) (es.modify j f)
  | [], [], _, _, _, _ => by simp; trivial
  | [], _ :: _, _, _, h, _ => h.elim
  | _ :: _, [], _, _, h, _ => h.elim
  | x :: r, e :: es, 0, f, h, hf => by
    simp only [List.set_cons_zero, List.modify_zero_cons]
    exact ⟨⟨k, v, rfl, hf e⟩, h.2⟩
  | x :: r, e :: es, j + 1, f, h, hf => by
    simp only [List.set_cons_succ, List.modify_succ_cons]
    exact ⟨h.1, h.2.set j hf⟩

theorem ERel.keep {kt et : Nat} {w' : World} {μ' : Nat → Option Nat} {ro' : Nat → Prop} (hk : Keeps μ μ' ro ro' w w') : ∀ {en : List PV} {es : List MapEntry}, ERel T w μ ro kt et en es → ERel T w' μ' ro' kt et en es
  | [], [], _ => trivial
  | [], _ :: _, h => h.elim
  | _ :: _, [], h => h.elim
  | _ :: _, _ :: _, ⟨⟨k, v, hx, h4, h5, h6, h7, h8, h9⟩, h⟩ => ⟨⟨k, v, hx, h4, h5, h6, h7, h8.keep hk, h9.keep hk⟩, h.keep hk⟩

theorem sameBits_int (n : Nat) (k : IntKind) (a : Int) : Instr.sameBits n (.int k a) (.int k a) = true := by cases n <;> simp [Instr.sameBits]
theorem sameBits_bool (n : Nat) (a : Bool) : Instr.sameBits n (.bool a) (.bool a) = true := by cases n <;> simp [Instr.sameBits]
theorem sameBits_str (n : Nat) (a : ByteArray) : Instr.sameBits n (.string a) (.string a) = true := by
  have : (a == a) = true := (MapKept.bytes_beq a a).2 rfl
  cases n <;> simp [Instr.sameBits, this]

theorem checkKey_int (n : Nat) (b : Bool) {kt : Nat} {k : IntKind} (hu : P.underlying kt = some (.int k)) (v : Value) : (Instr.checkKey b (n + 1) kt v).run P w = .ok () w := by simp [Instr.checkKey, run_underlying hu]
theorem checkKey_bool (n : Nat) (b : Bool) {kt : Nat} (hu : P.underlying kt = some .bool) (v : Value) : (Instr.checkKey b (n + 1) kt v).run P w = .ok () w := by simp [Instr.checkKey, run_underlying hu]
theorem checkKey_str (n : Nat) (b : Bool) {kt : Nat} (hu : P.underlying kt = some .string) (v : Value) : (Instr.checkKey b (n + 1) kt v).run P w = .ok () w := by simp [Instr.checkKey, run_underlying hu]

/-- The kind of a key. -/
theorem key_desc (hF : tabFits P T 0 T = true) {kt : Nat} {k : PV} (h : isKey T kt k = true) : ∃ d, P.underlying kt = some d ∧ ∀ v, Rep T w μ ro k v → ∀ (k' : PV) (u : Value), isKey T kt k' = true → Rep T w μ ro k' u →
    Instr.sameNow d v u = some (peq k k') ∧ (peq k k' = true → v = u) ∧ Instr.sameBits 10000 u u = true ∧ (∀ b, (Instr.checkKey b 10000 kt v).run P w = .ok () w) := by
  have hno : (T.at kt).kd ≠ .other := fun e => by unfold isKey at h; rw [e] at h; simp at h
  obtain ⟨i, d, z, hi⟩ := tiOk_of hF kt hno
  refine ⟨d, hi.under, fun v hv k' u hk' hu => ?_⟩
  have hkd := hi.kd
  unfold isKey at h hk'
  cases e : (T.at kt).kd <;> rw [e] at h hk' hkd <;> cases k <;> cases k' <;> simp at h hk' <;> cases d <;> simp [kdFits] at hkd
  · subst h; subst hk'; subst hkd
    obtain rfl := hv.int_inv; obtain rfl := hu.int_inv
    refine ⟨by simp [Instr.sameNow, peq], fun hp => by simp [peq] at hp; rw [hp], sameBits_int _ _ _, fun b => checkKey_int 9999 b hi.under _⟩
  · obtain rfl := hv.bool_inv; obtain rfl := hu.bool_inv
    refine ⟨by simp [Instr.sameNow, peq], fun hp => by simp [peq] at hp; rw [hp], sameBits_bool _ _, fun b => checkKey_bool 9999 b hi.under _⟩
  · obtain rfl := hv.str_inv; obtain rfl := hu.str_inv
    rename_i s s'
    have hs : (s.toList == s'.toList) = (s == s') := (beq_toListBytes s s').symm
    refine ⟨by simp [Instr.sameNow, peq, hs], fun hp => by simp only [peq, hs] at hp; rw [(MapKept.bytes_beq s s').1 hp], sameBits_str _ _, fun b => checkKey_str 9999 b hi.under _⟩

/-- A key is sought. -/
theorem find_rel {kt et : Nat} {k : PV} {v : Value} {d : TypeDesc} (hd : ∀ (k' : PV) (u : Value), isKey T kt k' = true → Rep T w μ ro k' u → Instr.sameNow d v u = some (peq k k') ∧ (peq k k' = true → v = u)) :
    ∀ (en : List PV) (es : List MapEntry) (i : Nat), ERel T w μ ro kt et en es →
    (Instr.findNow d v es i = some none ∧ mget k en = none ∧ (∀ y, mput k y en = en ++ [.tup [k, y]]) ∧ mdel k en = en) ∨
    ∃ j x e, es[j]? = some e ∧ en[j]? = some x ∧ e.key = v ∧ Instr.findNow d v es i = some (some (i + j, e.val)) ∧ mget k en = some (entVal x) ∧ (∀ y, mput k y en = en.set j (.tup [k, y])) ∧ mdel k en = en.eraseIdx j
  | [], [], i, _ => .inl ⟨rfl, rfl, fun _ => rfl, rfl⟩
  | [], _ :: _, _, h => h.elim
  | _ :: _, [], _, h => h.elim
  | x :: r, e :: es, i, ⟨⟨k', v', hx, hk', h5, h6, h7, h8, h9⟩, h⟩ => by
    obtain ⟨h1, h2⟩ := hd k' e.key hk' h8
    have hek : entKey x = k' := by rw [hx]; rfl
    cases hp : peq k k' with
    | true =>
      refine .inr ⟨0, x, e, rfl, rfl, (h2 hp).symm, ?_, ?_, fun y => ?_, ?_⟩
      · simp [Instr.findNow, h1, hp]
      · simp [mget, hek, hp]
      · simp [mput, hek, hp]
      · simp [mdel, hek, hp]
    | false =>
      rcases find_rel hd r es (i + 1) h with ⟨a1, a2, a3, a4⟩ | ⟨j, x', e', a1, a2, a2', a3, a4, a5, a6⟩
      · refine .inl ⟨?_, ?_, fun y => ?_, ?_⟩
        · simp [Instr.findNow, h1, hp, a1]
        · simp [mget, hek, hp, a2]
        · simp [mput, hek, hp, a3]
        · simp [mdel, hek, hp, a4]
      · refine .inr ⟨j + 1, x', e', by simpa using a1, by simpa using a2, a2', ?_, ?_, fun y => ?_, ?_⟩
        · simp [Instr.findNow, h1, hp, a3]; omega
        · simp [mget, hek, hp, a4]
        · simp [mput, hek, hp, a5]
        · simp [mdel, hek, hp, a6]

/-- What is known of a map that is named. -/
theorem map_known (hL : HRel T w μ ro L) {kt et : Nat} {x : PV} {v : Value} {K : List PV → Prop} (h : mapK kt et L x K) (hx : Rep T w μ ro x v) :
    ∃ en, K en ∧ ((v = .map none ∧ en = []) ∨ ∃ b es clock, v = .map (some b) ∧ w.heap[b]? = some (.map es clock) ∧ BornOk es clock ∧ ERel T w μ ro kt et en es.toList) := by
  unfold mapK at h
  split at h
  · rename_i h'
    split at h
    · rename_i l kt' et' en eL
      obtain ⟨hc, hK⟩ := cond_and h
      simp only [Bool.and_eq_true, Nat.beq_eq] at hc
      obtain ⟨rfl, rfl⟩ := hc
      have hb := hL.blk h'
      rw [eL] at hb
      obtain ⟨b, rfl, hm⟩ := hx.mapr_inv
      obtain ⟨h1, b', e', _, es, clock, h3, h4, h5, h6⟩ := hb
      rw [hm] at e'; cases e'
      exact ⟨en, hK, .inr ⟨b, es, clock, rfl, h3, h5, .of h1 (by simpa using h4) (fun i k v e hx he => h6 i k v e hx (by simpa using he))⟩⟩
    · exact h.elim
  · rename_i kt' et' en
    obtain ⟨hc, hK⟩ := cond_and h
    simp only [Bool.and_eq_true, Nat.beq_eq] at hc
    obtain ⟨rfl, rfl⟩ := hc
    rcases hx.dmap_inv with ⟨rfl, rfl⟩ | ⟨b, es, clock, rfl, h2, h3, h4, h5, h6, h7⟩
    · exact ⟨_, hK, .inl ⟨rfl, rfl⟩⟩
    · exact ⟨en, hK, .inr ⟨b, es, clock, rfl, h3, h6, .of h5 (by simpa using h4) (fun i k v e hx he => h7 i k v e hx (by simpa using he))⟩⟩
  · obtain rfl := hx.nilm_inv
    exact ⟨[], h, .inl ⟨rfl, rfl⟩⟩
  · exact h.elim

theorem run_getMap {b : Nat} {es : Array MapEntry} {clock : Nat} (h : w.heap[b]? = some (.map es clock)) : (getObj b).run P w = .ok (.map es clock) w := by
  simp [getObj, Sem.run, h]

theorem run_findKey {kt : Nat} {d : TypeDesc} (hu : P.underlying kt = some d) {v : Value} {es : List MapEntry} {r : Option (Nat × Value)} (h : Instr.findNow d v es 0 = some r) : (Instr.findKey kt v es).run P w = .ok r w := by
  simp [Instr.findKey, run_underlying hu, h]

theorem lookup_sound (hF : tabFits P T 0 T = true) {t : Nat} {x ix : PV} {v u : Value} {ok : Bool} {K : PV → Prop} (h : evLookup T L t x ix ok K) (hx : Rep T w μ ro x v) (hix : Rep T w μ ro ix u) (hL : HRel T w μ ro L) :
    ∃ r, (Instr.lookup t v u ok).run P w = .ok r w ∧ ∃ pv, K pv ∧ Rep T w μ ro pv r := by
  unfold evLookup at h
  split at h
  · rename_i kt et ek
    obtain ⟨i, d, z, hi⟩ := under_of hF ek (by simp)
    have hu := hi.kd_map ek
    obtain ⟨en, hK, hen⟩ := map_known hL h hx
    obtain ⟨hc, hK⟩ := cond_and hK
    simp only [Bool.and_eq_true, Bool.not_eq_true'] at hc
    obtain ⟨⟨hk, hno⟩, hfit⟩ := hc
    obtain ⟨dk, hdk, hkey⟩ := key_desc (w := w) (μ := μ) (ro := ro) hF hk
    have hkey := hkey u hix
    have hno' : (T.at et).kd ≠ .other := fun e => by rw [e] at hno; simp [Kd.isOther] at hno
    obtain ⟨i2, d2, z2, hi2⟩ := tiOk_of hF et hno'
    have hz := zeroEq_rep (T := T) (w := w) (μ := μ) (ro := ro) hi2.zeroEq
    have hchk : ∀ b, (Instr.checkKey b 10000 kt u).run P w = .ok () w := (hkey ix u hk hix).2.2.2
    have fin : ∀ (pv : PV) (r : Value) (b : Bool), Rep T w μ ro pv r → Rep T w μ ro (cond ok (.tup [pv, .bool b]) pv) (if ok then .tuple #[r, .bool b] else r) := fun pv r b hr => by
      cases ok with
      | false => exact hr
      | true =>
        refine .tup _ _ rfl (fun i y q hy hq => ?_)
        match i with
        | 0 => simp at hy hq; subst hy; subst hq; exact hr
        | 1 => simp at hy hq; subst hy; subst hq; exact .bool _
        | i + 2 => simp at hy
    have hK' : K (cond ok (.tup [(mget ix en).getD (T.at et).zero, .bool (mget ix en).isSome]) ((mget ix en).getD (T.at et).zero)) := decK_same 8 et ((mget ix en).getD (T.at et).zero) (fun v => K (cond ok (.tup [v, .bool (mget ix en).isSome]) v)) hK
    rcases hen with ⟨rfl, rfl⟩ | ⟨b, es, clock, rfl, h3, h5, h6⟩
    · refine ⟨if ok then .tuple #[z2, .bool false] else z2, ?_, _, hK', fin _ _ _ hz.1⟩
      simp [Instr.lookup, run_underlying hu, hchk, run_findKey hdk (show Instr.findNow dk u [] 0 = some none from rfl), hi2.run_zero, mget]
    · rcases find_rel (fun k' u' hk' hu' => ⟨(hkey k' u' hk' hu').1, (hkey k' u' hk' hu').2.1⟩) en es.toList 0 h6 with ⟨a1, a2, _⟩ | ⟨j, y, e, a1, a2, a2', a3, a4, _⟩
      · refine ⟨if ok then .tuple #[z2, .bool false] else z2, ?_, _, hK', ?_⟩
        · simp only [Instr.lookup, Sem.run_bind, run_underlying hu, run_getMap h3, hchk, run_findKey hdk a1, hi2.run_zero, Result.andThen_ok, Sem.run_pure]
        · rw [a2]; exact fin _ _ _ hz.1
      · refine ⟨if ok then .tuple #[e.val, .bool true] else e.val, ?_, _, hK', ?_⟩
        · simp only [Instr.lookup, Sem.run_bind, run_underlying hu, run_getMap h3, hchk, run_findKey hdk a3, Result.andThen_ok, Sem.run_pure]
        · rw [a4]
          obtain ⟨b1, _, b3⟩ := h6.to
          obtain ⟨k', v', rfl, _⟩ := b1 y (List.mem_of_getElem? a2)
          exact fin _ _ _ (b3 j k' v' e a2 a1).2
  · exact h.elim

theorem run_setMap {b : Nat} {es : Array MapEntry} {clock : Nat} (h : w.heap[b]? = some (.map es clock)) (o : Obj) : (setObj b o).run P w = .ok () (setBlock w b o) := by
  simp [setObj, Sem.run, h, setBlock]

theorem setBlock_wrote {b : Nat} {o o' : Obj} (h : w.heap[b]? = some o) : WroteO w (setBlock w b o') b o' := by
  have hlt : b < w.heap.size := (Array.getElem?_eq_some_iff.1 h).1
  refine ⟨by simp [setBlock, hlt], fun x hx => ?_, by simp [setBlock], rfl, rfl, rfl⟩
  simp only [setBlock]
  rw [Array.getElem?_setIfInBounds_ne (fun e => hx e.symm)]

theorem mapUpdate_sound (hF : tabFits P T 0 T = true) {t : Nat} {x k y : PV} {v u q : Value} {K : Ups → Prop} (h : evMapUpdate T L t x k y K) (hx : Rep T w μ ro x v) (hk : Rep T w μ ro k u) (hy : Rep T w μ ro y q) (hL : HRel T w μ ro L) :
    ∃ w', (Instr.mapUpdate t v u q).run P w = .ok () w' ∧ Out T hb L μ ro w (fun _ ups => K ups) undef w' := by
  unfold evMapUpdate at h
  split at h
  · rename_i kt et h' ek
    obtain ⟨i, d, z, hi⟩ := under_of hF ek (by simp)
    have hu := hi.kd_map ek
    split at h
    · rename_i kt' et' en eL
      obtain ⟨hc, hK⟩ := cond_and h
      simp only [Bool.and_eq_true, Nat.beq_eq] at hc
      obtain ⟨⟨rfl, rfl⟩, hkey0⟩ := hc
      obtain ⟨⟨hfit, hpur⟩, hK⟩ := elemOkK_spec hK
      have hshp := shp_of_rep hy
      obtain ⟨dk, hdk, hkey⟩ := key_desc (w := w) (μ := μ) (ro := ro) hF hkey0
      have hkey := hkey u hk
      have hchk : ∀ b, (Instr.checkKey b 10000 kt' u).run P w = .ok () w := (hkey k u hkey0 hk).2.2.2
      have hbits : Instr.sameBits 10000 u u = true := (hkey k u hkey0 hk).2.2.1
      have hb := hL.blk h'
      rw [eL] at hb
      obtain ⟨b, rfl, hm⟩ := hx.mapr_inv
      obtain ⟨h1, b', e', _, es, clock, h3, h4, h5, h6⟩ := hb
      rw [hm] at e'; cases e'
      have hE : ERel T w μ ro kt' et' en es.toList := .of h1 (by simpa using h4) (fun i k v e hx he => h6 i k v e hx (by simpa using he))
      have hlive : (L h').live = true := by rw [eL]; rfl
      have hnc : ∀ c t fr, Obj.map es clock ≠ .cells c t fr := fun _ _ _ e => by cases e
      have fin : ∀ (es' : Array MapEntry) (clock' : Nat), BornOk es' clock' → ERel T w μ ro kt' et' (mput k y en) es'.toList → Out T hb L μ ro w (fun _ ups => K ups) undef (setBlock w b (.map es' clock')) := fun es' clock' hbo hE' => by
        have hw := setBlock_wrote (o' := .map es' clock') h3
        have hkeep : Keeps μ μ ro ro w _ := hw.keeps (hL.apart h' b hlive hm) h3 hnc
        obtain ⟨c1, c2, c3⟩ := hE'.keep hkeep |>.to
        refine ⟨.undef, _, μ, hK, .undef _, hw.hrel hL hlive hm h3 hnc (k := .map true kt' et' (mput k y en)) ⟨c1, b, rfl, (fun h => by cases h), es', clock', hw.at_, by simpa using c2, hbo, fun i k v e hx he => c3 i k v e hx (by simpa using he)⟩, hkeep, hw.chg hlive hm, fun _ _ => rfl, fun x _ hg => ?_, fun x c hl hmx => ?_⟩
        · simp only [upds]
          by_cases e : x = h'
          · subst e; rw [eL] at hg; cases hg
          · rw [upd_other e]; exact hg
        · simp only [upds] at hl
          by_cases e : x = h'
          · subst e; exact .inl ⟨x, hlive, hmx⟩
          · rw [upd_other e] at hl; exact .inl ⟨x, hl, hmx⟩
      rcases find_rel (fun k' u' hk' hu' => ⟨(hkey k' u' hk' hu').1, (hkey k' u' hk' hu').2.1⟩) en es.toList 0 hE with ⟨a1, a2, a3, _⟩ | ⟨j, y', e, a1, a2, a2', a3, a4, a5, _⟩
      · refine ⟨_, ?_, fin (es.push { key := u, val := q, born := clock }) (clock + 1) ⟨fun e he => ?_, ?_⟩ ?_⟩
        · simp only [Instr.mapUpdate, Sem.run_bind, run_underlying hu, run_getMap h3, hchk, run_findKey hdk a1, Result.andThen_ok]
          exact run_setMap h3 _
        · simp only [Array.toList_push, List.mem_append, List.mem_singleton] at he
          rcases he with he | rfl
          · have := h5.1 e he; omega
          · exact Nat.lt_succ_self _
        · simp only [Array.toList_push, List.map_append, List.map_cons, List.map_nil]
          refine List.nodup_append.2 ⟨h5.2, by simp, fun a ha c hc => ?_⟩
          simp only [List.mem_singleton] at hc
          obtain ⟨e, he, rfl⟩ := List.mem_map.1 ha
          have := h5.1 e he
          omega
        · rw [a3, Array.toList_push]
          exact hE.append ⟨⟨k, y, rfl, hkey0, hshp, hfit, hpur, hk, hy⟩, trivial⟩
      · have hkk : (Instr.keyThatStays e.key u).run P w = .ok u w := by rw [a2']; simp [Instr.keyThatStays, hbits]
        refine ⟨_, ?_, fin (es.modify j fun e => { e with key := u, val := q }) clock ⟨fun e he => ?_, ?_⟩ ?_⟩
        · have hj : es[j]? = some e := by simpa using a1
          simp only [Instr.mapUpdate, Sem.run_bind, run_underlying hu, run_getMap h3, hchk, run_findKey hdk a3, Result.andThen_ok, Nat.zero_add, hj, Option.map_some, Option.getD_some, hkk]
          exact run_setMap h3 _
        · rw [Array.toList_modify] at he
          obtain ⟨i, hi'⟩ := List.mem_iff_getElem?.1 he
          rw [List.getElem?_modify] at hi'
          cases hq : es.toList[i]? with
          | none => rw [hq] at hi'; simp at hi'
          | some e0 =>
            rw [hq] at hi'
            simp only [Option.map_eq_map, Option.map_some, Option.some.injEq] at hi'
            have hb0 := h5.1 e0 (List.mem_of_getElem? hq)
            by_cases hij : j = i
            · rw [if_pos hij] at hi'; rw [← hi']; exact hb0
            · rw [if_neg hij] at hi'; rw [← hi']; exact hb0
        · have hmm : (es.modify j fun e => { e with key := u, val := q }).toList.map (·.born) = es.toList.map (·.born) := by
            rw [Array.toList_modify]
            apply List.ext_getElem?
            intro i
            simp only [List.getElem?_map, List.getElem?_modify]
            cases es.toList[i]? with
            | none => rfl
            | some e0 => by_cases hij : j = i <;> simp [hij]
          rw [hmm]; exact h5.2
        · rw [a5, Array.toList_modify]
          exact hE.set j (fun e => ⟨hkey0, hshp, hfit, hpur, hk, hy⟩)
    · exact h.elim
  · exact h.elim

theorem delete_sound (hF : tabFits P T 0 T = true) {t : Nat} {ts : List TypeId} {ty : TypeId} {x k : PV} {v u : Value} {K : Ups → Prop} (h : evDelete T L t x k K) (hx : Rep T w μ ro x v) (hk : Rep T w μ ro k u) (hL : HRel T w μ ro L) :
    ∃ w', (Builtin.delete_ (t :: ts).toArray ty #[v, u]).run P w = .ok (.tuple #[]) w' ∧ Out T hb L μ ro w (fun pv ups => pv = .tup [] ∧ K ups) (.tuple #[]) w' := by
  unfold evDelete at h
  split at h
  · rename_i kt et h' ek
    obtain ⟨i, d, z, hi⟩ := under_of hF ek (by simp)
    have hu := hi.kd_map ek
    split at h
    · rename_i kt' et' en eL
      obtain ⟨hc, hK⟩ := cond_and h
      simp only [Bool.and_eq_true, Nat.beq_eq] at hc
      obtain ⟨⟨rfl, rfl⟩, hkey0⟩ := hc
      obtain ⟨dk, hdk, hkey⟩ := key_desc (w := w) (μ := μ) (ro := ro) hF hkey0
      have hkey := hkey u hk
      have hchk : ∀ b, (Instr.checkKey b 10000 kt' u).run P w = .ok () w := (hkey k u hkey0 hk).2.2.2
      have hb := hL.blk h'
      rw [eL] at hb
      obtain ⟨b, rfl, hm⟩ := hx.mapr_inv
      obtain ⟨h1, b', e', _, es, clock, h3, h4, h5, h6⟩ := hb
      rw [hm] at e'; cases e'
      have hE : ERel T w μ ro kt' et' en es.toList := .of h1 (by simpa using h4) (fun i k v e hx he => h6 i k v e hx (by simpa using he))
      have hlive : (L h').live = true := by rw [eL]; rfl
      have hnc : ∀ c t fr, Obj.map es clock ≠ .cells c t fr := fun _ _ _ e => by cases e
      have fin : ∀ (es' : Array MapEntry), BornOk es' clock → ERel T w μ ro kt' et' (mdel k en) es'.toList → Out T hb L μ ro w (fun pv ups => pv = .tup [] ∧ K ups) (.tuple #[]) (setBlock w b (.map es' clock)) := fun es' hbo hE' => by
        have hw := setBlock_wrote (o' := .map es' clock) h3
        have hkeep : Keeps μ μ ro ro w _ := hw.keeps (hL.apart h' b hlive hm) h3 hnc
        obtain ⟨c1, c2, c3⟩ := hE'.keep hkeep |>.to
        refine ⟨.tup [], _, μ, ⟨rfl, hK⟩, .tup _ _ rfl (fun i y q hy => by simp at hy), hw.hrel hL hlive hm h3 hnc (k := .map true kt' et' (mdel k en)) ⟨c1, b, rfl, (fun h => by cases h), es', clock, hw.at_, by simpa using c2, hbo, fun i k v e hx he => c3 i k v e hx (by simpa using he)⟩, hkeep, hw.chg hlive hm, fun _ _ => rfl, fun x _ hg => ?_, fun x c hl hmx => ?_⟩
        · simp only [upds]
          by_cases e : x = h'
          · subst e; rw [eL] at hg; cases hg
          · rw [upd_other e]; exact hg
        · simp only [upds] at hl
          by_cases e : x = h'
          · subst e; exact .inl ⟨x, hlive, hmx⟩
          · rw [upd_other e] at hl; exact .inl ⟨x, hl, hmx⟩
      have hun : ∀ (es' : Array MapEntry) (j : Nat), es'.toList = es.toList.eraseIdx j → BornOk es' clock := fun es' j he => by
        refine ⟨fun e hm => h5.1 e ?_, ?_⟩
        · rw [he] at hm; exact List.mem_of_mem_eraseIdx hm
        · rw [he]; exact h5.2.sublist ((List.eraseIdx_sublist _ _).map _)
      rcases find_rel (fun k' u' hk' hu' => ⟨(hkey k' u' hk' hu').1, (hkey k' u' hk' hu').2.1⟩) en es.toList 0 hE with ⟨a1, a2, a3, a4⟩ | ⟨j, y', e, a1, a2, a2', a3, a4, a5, a6⟩
      · refine ⟨_, ?_, fin es h5 (by rw [a4]; exact hE)⟩
        simp [Builtin.delete_, run_underlying hu, run_getMap h3, hchk, run_findKey hdk a1, run_setMap h3]
      · have hes : (es.eraseIdxIfInBounds j).toList = es.toList.eraseIdx j := by
          have hlt : j < es.size := by have := (List.getElem?_eq_some_iff.1 a1).1; simpa using this
          simp [Array.eraseIdxIfInBounds, hlt]
        refine ⟨_, ?_, fin (es.eraseIdxIfInBounds j) (hun _ j hes) (by rw [a6, hes]; exact hE.eraseIdx j)⟩
        simp [Builtin.delete_, run_underlying hu, run_getMap h3, hchk, run_findKey hdk a3, run_setMap h3]
    · exact h.elim
  · exact h.elim

/-- A map is not written from now on. -/
theorem freezeMap {h b : Nat} {l : Bool} {kt et : Nat} {en : List PV} (hL : HRel T w μ ro L) (eL : L h = .map l kt et en) (hm : μ h = some b) :
    ∃ ro', HRel T w μ ro' (upd L h (.map false kt et en)) ∧ Keeps μ μ ro ro' w w ∧ ro' b ∧ (∀ x, ro' x → ro x ∨ ∃ h, (L h).live = true ∧ μ h = some x) ∧ ∀ x, ((upd L h (.map false kt et en)) x).live = true → (L x).live = true := by
  have hb := hL.blk h
  rw [eL] at hb
  obtain ⟨h1, b', e', h2, es, clock, h3, h4, h5, h6⟩ := hb
  rw [hm] at e'; cases e'
  have hlv : ∀ x, ((upd L h (.map false kt et en)) x).live = true → (L x).live = true ∧ x ≠ h := fun x hx => by
    by_cases e : x = h
    · subst e; rw [upd_same] at hx; cases hx
    · rw [upd_other e] at hx; exact ⟨hx, e⟩
  have hlt : b < w.heap.size := hL.lt h b hm
  have hk : Keeps μ μ ro (fun x => ro x ∨ x = b) w w := ⟨fun _ _ h => h, fun _ h => .inl h, fun _ _ => rfl, fun _ c t fr h => ⟨c, fr, h, rfl⟩⟩
  refine ⟨fun x => ro x ∨ x = b, ⟨hL.lt, fun x y hx hy hro => ?_, fun x hx => ?_, fun x y c hx hy h1 h2 => hL.inj x y c (hlv x hx).1 (hlv y hy).1 h1 h2, fun x => ?_⟩, hk, .inr rfl, fun x hx => ?_, fun x hx => (hlv x hx).1⟩
  · obtain ⟨hx1, hx2⟩ := hlv x hx
    rcases hro with hro | rfl
    · exact hL.apart x y hx1 hy hro
    · cases l with
      | true => exact hx2 (hL.inj x h y hx1 (by rw [eL]; rfl) hy hm)
      | false => exact hL.apart x y hx1 hy (h2 rfl)
  · rcases hx with hx | rfl
    · exact hL.ro_lt x hx
    · exact hlt
  · by_cases e : x = h
    · subst e
      rw [upd_same, hm]
      exact ⟨h1, b, rfl, fun _ => .inr rfl, es, clock, h3, h4, h5, fun i k v e hx he => ⟨(h6 i k v e hx he).1.keep hk, (h6 i k v e hx he).2.keep hk⟩⟩
    · rw [upd_other e]; exact (hL.blk x).keep hk (fun _ _ => rfl)
  · rcases hx with hx | rfl
    · exact .inl hx
    · cases l with
      | true => exact .inr ⟨h, by rw [eL]; rfl, hm⟩
      | false => exact .inl (h2 rfl)

theorem leftOf_nil (es : Array MapEntry) : leftOf es #[] = es := by
  unfold leftOf
  simp

theorem range_sound (hF : tabFits P T 0 T = true) {t : Nat} {x : PV} {v : Value} (h : evRangeM T hb L t x K) (hx : Rep T w μ ro x v) (hL : HRel T w μ ro L) (hfr : Fresh hb μ L) :
    ∃ r w', (Instr.range t v).run P w = .ok r w' ∧ Out2 T hb L μ ro w K r w' := by
  unfold evRangeM at h
  split at h
  · rename_i kt et h' ek
    obtain ⟨i, d, z, hi⟩ := under_of hF ek (by simp)
    have hu := hi.kd_map ek
    split at h
    · rename_i l kt' et' en eL
      obtain ⟨hc, hK⟩ := cond_and h
      simp only [Bool.and_eq_true, Nat.beq_eq] at hc
      obtain ⟨rfl, rfl⟩ := hc
      have hb0 := hL.blk h'
      rw [eL] at hb0
      obtain ⟨b, rfl, hm⟩ := hx.mapr_inv
      obtain ⟨h1, b', e', _, es, clock, h3, h4, h5, h6⟩ := hb0
      rw [hm] at e'; cases e'
      obtain ⟨ro', hL', hk', hrb, hgrow, hlive⟩ := freezeMap hL eL hm
      have hne : hb ≠ h' := fun e => by have := (hfr hb (Nat.le_refl _) (by omega)).1; rw [e, eL] at this; cases this
      have hfr' : Fresh hb μ (upd L h' (.map false kt' et' en)) := fun y hy1 hy2 => by
        obtain ⟨a, c⟩ := hfr y hy1 hy2
        refine ⟨?_, c⟩
        have : y ≠ h' := fun e => by rw [e, eL] at a; cases a
        rw [upd_other this]; exact a
      have hg : Grew w { w with heap := w.heap.push (.mapIter (some b) clock #[] clock) } (.mapIter (some b) clock #[] clock) := grew_push _
      have hk2 := hg.keeps hL' (hfr' hb (Nat.le_refl _) (by omega)).2
      have hlt : b < w.heap.size := hL.lt h' b hm
      obtain ⟨pv, ups, μ', ⟨hK1, hK2⟩, o2, o3, o4, o5, o6, o7, o8⟩ := out_obj (K := fun pv ups => pv = .ptr hb 0 0 [] ∧ ups = [(hb, .iter true kt' et' en .undef)]) (k := .iter true kt' et' en .undef) (pv := .ptr hb 0 0 []) hg hL' hfr'
        ⟨h1, w.heap.size, rfl, (fun h => by cases h), some b, clock, #[], clock, by simp, .inr ⟨b, es, clock, rfl, hrb, (hg.get b hlt).trans h3, rfl, rfl, h5, by rw [leftOf_nil]; exact h4, fun i k v e hx he => by
          rw [leftOf_nil] at he
          exact ⟨((h6 i k v e hx he).1.keep hk').keep hk2, ((h6 i k v e hx he).2.keep hk').keep hk2⟩, fun k v hc => by cases hc⟩⟩
        (by have := Rep.ptr (T := T) (w := { w with heap := w.heap.push (.mapIter (some b) clock #[] clock) }) (μ := muNew μ hb w.heap.size) (ro := ro') hb 0 0 [] w.heap.size (by unfold muNew; rw [if_pos rfl])
            simpa [offAt] using this) ⟨rfl, rfl⟩
      subst hK1; subst hK2
      refine ⟨.pointer (some ⟨w.heap.size, 0, none⟩), _, by simp [Instr.range, run_underlying hu, run_getMap h3, newObj, Sem.run], .ptr hb 0 0 [], [(h', .map false kt' et' en), (hb, .iter true kt' et' en .undef)], μ', ro', hK, o2, o3, hk'.trans o4, ?_, o6, fun y hy hgy => ?_, fun y c hl hmy => ?_, fun y hy => ?_⟩
      · exact ⟨o5.os, o5.tape, o5.output, o5.size, fun y hy hn => o5.same y hy (fun q hq => hn q (hlive q hq))⟩
      · refine o7 y hy ?_
        have : y ≠ h' := fun e => by rw [e, eL] at hgy; cases hgy
        rw [upd_other this]; exact hgy
      · rcases o8 y c hl hmy with ⟨q, hq, hmq⟩ | hq
        · exact .inl ⟨q, hlive q hq, hmq⟩
        · exact .inr hq
      · rcases hgrow y hy with hy | hy
        · exact .inl hy
        · exact .inr (.inr hy)
    · exact h.elim
  · rename_i kt et kt' et' en ek
    obtain ⟨i, d, z, hi⟩ := under_of hF ek (by simp)
    have hu := hi.kd_map ek
    obtain ⟨hc, hK⟩ := cond_and h
    simp only [Bool.and_eq_true, Nat.beq_eq] at hc
    obtain ⟨rfl, rfl⟩ := hc
    rcases hx.dmap_inv with ⟨rfl, rfl⟩ | ⟨b, es, clock, rfl, h2, h3, h4, h5, h6, h7⟩
    · refine ⟨.pointer (some ⟨w.heap.size, 0, none⟩), _, by simp [Instr.range, run_underlying hu, newObj, Sem.run], Out.out2 (out_obj (k := .iter true kt' et' [] .undef) (pv := .ptr hb 0 0 []) (grew_push (.mapIter none 0 #[] 0)) hL hfr
        ⟨(fun x hx => by simp at hx), w.heap.size, rfl, (fun h => by cases h), none, 0, #[], 0, by simp, .inl ⟨rfl, rfl, fun k v hc => by cases hc⟩⟩ ?_ hK)⟩
      have := Rep.ptr (T := T) (w := { w with heap := w.heap.push (.mapIter none 0 #[] 0) }) (μ := muNew μ hb w.heap.size) (ro := ro) hb 0 0 [] w.heap.size (by unfold muNew; rw [if_pos rfl])
      simpa [offAt] using this
    · have hg : Grew w { w with heap := w.heap.push (.mapIter (some b) clock #[] clock) } (.mapIter (some b) clock #[] clock) := grew_push _
      have hk2 := hg.keeps hL (hfr hb (Nat.le_refl _) (by omega)).2
      refine ⟨.pointer (some ⟨w.heap.size, 0, none⟩), _, by simp [Instr.range, run_underlying hu, run_getMap h3, newObj, Sem.run], Out.out2 (out_obj (k := .iter true kt' et' en .undef) (pv := .ptr hb 0 0 []) hg hL hfr
        ⟨h5, w.heap.size, rfl, (fun h => by cases h), some b, clock, #[], clock, by simp, .inr ⟨b, es, clock, rfl, h2, (hg.get b (hL.ro_lt b h2)).trans h3, rfl, rfl, h6, by rw [leftOf_nil]; exact h4, fun i k v e hx he => by
          rw [leftOf_nil] at he
          exact ⟨(h7 i k v e hx he).1.keep hk2, (h7 i k v e hx he).2.keep hk2⟩, fun k v hc => by cases hc⟩⟩ ?_ hK)⟩
      have := Rep.ptr (T := T) (w := { w with heap := w.heap.push (.mapIter (some b) clock #[] clock) }) (μ := muNew μ hb w.heap.size) (ro := ro) hb 0 0 [] w.heap.size (by unfold muNew; rw [if_pos rfl])
      simpa [offAt] using this
  · rename_i kt et ek
    obtain ⟨i, d, z, hi⟩ := under_of hF ek (by simp)
    have hu := hi.kd_map ek
    obtain rfl := hx.nilm_inv
    refine ⟨.pointer (some ⟨w.heap.size, 0, none⟩), _, by simp [Instr.range, run_underlying hu, newObj, Sem.run], Out.out2 (out_obj (k := .iter true kt et [] .undef) (pv := .ptr hb 0 0 []) (grew_push (.mapIter none 0 #[] 0)) hL hfr
      ⟨(fun x hx => by simp at hx), w.heap.size, rfl, (fun h => by cases h), none, 0, #[], 0, by simp, .inl ⟨rfl, rfl, fun k v hc => by cases hc⟩⟩ ?_ h)⟩
    have := Rep.ptr (T := T) (w := { w with heap := w.heap.push (.mapIter none 0 #[] 0) }) (μ := muNew μ hb w.heap.size) (ro := ro) hb 0 0 [] w.heap.size (by unfold muNew; rw [if_pos rfl])
    simpa [offAt] using this
  · exact h.elim

theorem left_push {es : Array MapEntry} {clock : Nat} (hb : BornOk es clock) (seen : Array Nat) {j : Nat} {e : MapEntry} (hj : (leftOf es seen)[j]? = some e) : (leftOf es (seen.push e.born)).toList = (leftOf es seen).toList.eraseIdx j := by
  have h1 : (leftOf es (seen.push e.born)).toList = (leftOf es seen).toList.filter fun x => x.born != e.born := by
    unfold leftOf
    simp only [Array.toList_filter, List.filter_filter]
    congr 1
    funext x
    simp only [Array.contains_push]
    cases hs : seen.contains x.born <;> cases hx : x.born == e.born <;> simp [bne, hx]
  rw [h1]
  have hn : ((leftOf es seen).toList.map (·.born)).Nodup := by
    unfold leftOf
    rw [Array.toList_filter]
    exact hb.2.sublist (List.filter_sublist.map _)
  have hj' : (leftOf es seen).toList[j]? = some e := by simpa using hj
  generalize (leftOf es seen).toList = l at hn hj'
  clear h1 hj
  induction l generalizing j with
  | nil => simp at hj'
  | cons a l ih =>
    simp only [List.map_cons, List.nodup_cons] at hn
    cases j with
    | zero =>
      simp only [List.getElem?_cons_zero, Option.some.injEq] at hj'
      subst hj'
      simp only [List.eraseIdx_cons_zero]
      rw [List.filter_cons_of_neg (by simp)]
      apply List.filter_eq_self.2
      intro x hx
      have : x.born ≠ a.born := fun e => hn.1 (e ▸ List.mem_map.2 ⟨x, hx, rfl⟩)
      simpa using this
    | succ j =>
      simp only [List.getElem?_cons_succ] at hj'
      have hne : a.born ≠ e.born := fun h => hn.1 (h ▸ List.mem_map.2 ⟨e, List.mem_of_getElem? hj', rfl⟩)
      rw [List.filter_cons_of_pos (by simpa using hne), ih hn.2 hj']
      rfl

theorem next_sound {it : PV} {v : Value} {isS : Bool} {ty : TypeId} (h : evNext T L it isS K) (hx : Rep T w μ ro it v) (hL : HRel T w μ ro L) :
    ∃ r w', (Instr.next v isS ty).run P w = .ok r w' ∧ Out T hb L μ ro w K r w' := by
  unfold evNext at h
  split at h
  · rename_i h' tt i p
    split at h
    · rename_i kt et rest cur eL
      obtain ⟨hc, hK0, hK1⟩ := cond_and h
      simp only [Bool.and_eq_true, Nat.beq_eq, List.isEmpty_iff] at hc
      obtain ⟨rfl, rfl⟩ := hc
      obtain ⟨b, hm, rfl⟩ := hx.ptr_inv
      have hb0 := hL.blk h'
      rw [eL] at hb0
      obtain ⟨h1, b', e', _, mo, since, seen, c0, h3, h4⟩ := hb0
      rw [hm] at e'; cases e'
      have ev : (⟨b, 0 * (T.at tt).size + offAt T tt [], none⟩ : Addr) = ⟨b, 0, none⟩ := by simp [offAt]
      rw [ev]
      have hlive : (L h').live = true := by rw [eL]; rfl
      have fin0 : rest = [] → Out T hb L μ ro w K (.tuple #[.bool false]) w := fun hr => by
        refine Out.same (hK0 hr) (.tup _ _ rfl (fun i y q hy hq => ?_)) hL
        match i with
        | 0 => simp at hy hq; subst hy; subst hq; exact .bool _
        | i + 1 => simp at hy
      rcases h4 with ⟨rfl, hr, _⟩ | ⟨m, es, clock, rfl, a2, a3, rfl, rfl, a6, a7, a8, a9⟩
      · exact ⟨_, w, by simp [Instr.next, getObj, Sem.run, h3, Result.andThen], fin0 hr⟩
      · rcases run_next_at (P := P) w ty b m c0 c0 seen es c0 h3 a3 (fun x hx => a6.1 x hx) (Nat.le_refl _) with ⟨h0, hrun⟩ | ⟨e, he, w1, hw1, hrun⟩
        · exact ⟨_, w, hrun, fin0 (List.length_eq_zero_iff.1 (by rw [a7, h0]))⟩
        · obtain ⟨j, hj⟩ := List.mem_iff_getElem?.1 he
          have hj' : (leftOf es seen)[j]? = some e := by simpa using hj
          have hjlt : j < rest.length := by rw [a7]; exact (Array.getElem?_eq_some_iff.1 hj').1
          obtain ⟨x, hxj⟩ : ∃ x, rest[j]? = some x := ⟨_, List.getElem?_eq_getElem hjlt⟩
          obtain ⟨k, u, rfl, hk1, hk2, hk3, hk4⟩ := h1 x (List.mem_of_getElem? hxj)
          have hK := hK1 j _ hxj
          have hK : decK T 8 kt k fun k => decK T 8 et u fun v => K (.tup [.bool true, k, v]) [(h', .iter true kt et (rest.eraseIdx j) (.tup [k, v]))] := hK
          have hK := decK_same 8 kt k _ hK
          have hK := decK_same 8 et u _ hK
          obtain ⟨rk, ru⟩ := a8 j k u e hxj hj'
          have hheap : w1.heap = w.heap := by rcases hw1 with rfl | rfl <;> rfl
          have hw : WroteO w (setBlock w1 b (.mapIter (some m) c0 (seen.push e.born) c0)) b (.mapIter (some m) c0 (seen.push e.born) c0) := by
            rcases hw1 with rfl | rfl
            · exact setBlock_wrote h3
            · have := setBlock_wrote (w := w.drew) (o' := .mapIter (some m) c0 (seen.push e.born) c0) (b := b) h3
              exact ⟨this.at_, this.other, this.size, this.os, this.tape, this.output⟩
          have hnc : ∀ c t fr, Obj.mapIter (some m) c0 seen c0 ≠ .cells c t fr := fun _ _ _ e => by cases e
          have hro := hL.apart h' b hlive hm
          have hkeep : Keeps μ μ ro ro w _ := hw.keeps hro h3 hnc
          have hbm : m ≠ b := fun e => hro (e ▸ a2)
          have hlist : (leftOf es (seen.push e.born)).toList = (leftOf es seen).toList.eraseIdx j := left_push a6 seen hj'
          have hEr : ERel T w μ ro kt et rest (leftOf es seen).toList := .of h1 (by simpa using a7) (fun i k v e hx he => a8 i k v e hx (by simpa using he))
          obtain ⟨c1, c2, c3⟩ := (hEr.eraseIdx j).keep hkeep |>.to
          refine ⟨_, _, hrun, .tup [.bool true, k, u], _, μ, hK, ?_, hw.hrel hL hlive hm h3 hnc (k := .iter true kt et (rest.eraseIdx j) (.tup [k, u])) ⟨c1, b, rfl, (fun h => by cases h), some m, c0, seen.push e.born, c0, hw.at_, .inr ⟨m, es, c0, rfl, a2, (hw.other m hbm).trans a3, rfl, rfl, a6, ?_, fun i k v e hx he => c3 i k v e hx (by rw [← hlist]; simpa using he), fun k' u' hc => ?_⟩⟩, hkeep, hw.chg hlive hm, fun _ _ => rfl, fun x _ hg => ?_, fun x c hl hmx => ?_⟩
          · refine .tup _ _ rfl (fun i y q hy hq => ?_)
            match i with
            | 0 => simp at hy hq; subst hy; subst hq; exact .bool _
            | 1 => simp at hy hq; subst hy; subst hq; exact rk.keep hkeep
            | 2 => simp at hy hq; subst hy; subst hq; exact ru.keep hkeep
            | i + 3 => simp at hy
          · rw [c2, ← hlist]; simp
          · simp only [PV.tup.injEq, List.cons.injEq, and_true] at hc
            obtain ⟨rfl, rfl⟩ := hc
            refine ⟨(isKey_pure hk1).1, hk4, e, ?_, seen, rfl, rk.keep hkeep, ru.keep hkeep⟩
            unfold leftOf at he
            simp only [Array.toList_filter, List.mem_filter] at he
            exact he.1
          · simp only [upds]
            by_cases e : x = h'
            · subst e; rw [eL] at hg; cases hg
            · rw [upd_other e]; exact hg
          · simp only [upds] at hl
            by_cases e : x = h'
            · subst e; exact .inl ⟨x, hlive, hmx⟩
            · rw [upd_other e] at hl; exact .inl ⟨x, hl, hmx⟩
    · exact h.elim
  · exact h.elim

theorem hrel_reset {h : Nat} {l : Bool} {kt et : Nat} {rest : List PV} {cur : PV} (hL : HRel T w μ ro L) (eL : L h = .iter l kt et rest cur) : HRel T w μ ro (upd L h (.iter l kt et rest .undef)) := by
  have hl0 : ∀ q, (upd L h (.iter l kt et rest .undef) q).live = true → (L q).live = true := fun q hq => by
    by_cases e : q = h
    · subst e; rw [upd_same] at hq; rw [eL]; exact hq
    · rwa [upd_other e] at hq
  refine ⟨hL.lt, fun q b hq => hL.apart q b (hl0 q hq), hL.ro_lt, fun q q2 b hq hq2 => hL.inj q q2 b (hl0 q hq) (hl0 q2 hq2), fun q => ?_⟩
  by_cases e : q = h
  · subst e
    rw [upd_same]
    have hb := hL.blk q
    rw [eL] at hb
    obtain ⟨h1, b, e1, h2, mo, since, seen, c0, h3, h4⟩ := hb
    refine ⟨h1, b, e1, h2, mo, since, seen, c0, h3, ?_⟩
    rcases h4 with ⟨a1, a2, -⟩ | ⟨m, es, clock, a1, a2, a3, a4, a5, a6, a7, a8, -⟩
    · exact .inl ⟨a1, a2, fun k v e => by cases e⟩
    · exact .inr ⟨m, es, clock, a1, a2, a3, a4, a5, a6, a7, a8, fun k v e => by cases e⟩
  · rw [upd_other e]; exact hL.blk q

theorem entry_sound {it : PV} {v : Value} {K : PV → Ups → Prop} (h : evEntry L it K) (hx : Rep T w μ ro it v) (hL : HRel T w μ ro L) :
    ∃ r, (Instr.entry v).run P w = .ok r w ∧ Out T hb L μ ro w K r w := by
  unfold evEntry at h
  split at h
  · rename_i h' tt i p
    split at h
    · rename_i l kt et rest cur eL
      obtain ⟨hc, hK⟩ := cond_and h
      simp only [Bool.and_eq_true, Nat.beq_eq, List.isEmpty_iff] at hc
      obtain ⟨rfl, rfl⟩ := hc
      obtain ⟨b, hm, rfl⟩ := hx.ptr_inv
      have hb0 := hL.blk h'
      rw [eL] at hb0
      obtain ⟨h1, b', e', _, mo, since, seen, c0, h3, h4⟩ := hb0
      rw [hm] at e'; cases e'
      have ev : (⟨b, 0 * (T.at tt).size + offAt T tt [], none⟩ : Addr) = ⟨b, 0, none⟩ := by simp [offAt]
      rw [ev]
      unfold entK at hK
      split at hK
      · rename_i k u
        rcases h4 with ⟨_, _, hn⟩ | ⟨m, es, clock, rfl, a2, a3, rfl, rfl, a6, a7, a8, a9⟩
        · exact absurd rfl (hn k u)
        · obtain ⟨-, -, e, he, s, rfl, r1, r2⟩ := a9 k u rfl
          refine ⟨_, run_entry_at w b m c0 s es c0 e h3 a3 he a6.2, _, _, μ, hK, .tup _ _ rfl (fun i y q hy hq => ?_), hrel_reset hL eL, Keeps.refl _ _ _, Chg.refl _ _ _, fun _ _ => rfl, fun q hq hg => ?_, fun q b1 hl hmq => .inl ⟨q, ?_, hmq⟩⟩
          · match i with
            | 0 => simp at hy hq; subst hy; subst hq; exact r1
            | 1 => simp at hy hq; subst hy; subst hq; exact r2
            | i + 2 => simp at hy
          · simp only [upds]
            rw [upd_other (by rintro rfl; rw [eL] at hg; cases hg)]; exact hg
          · simp only [upds] at hl
            by_cases e : q = h'
            · subst e; rw [upd_same] at hl; rw [eL]; exact hl
            · rwa [upd_other e] at hl
      · exact hK.elim
    · exact h.elim
  · exact h.elim
end
end Pv
