/- The frames twenty-second part: a function, by its body. -/
import Derived.Test.YtmaahlifffjeoaaFg
namespace Pv
open Go

section
variable {P : Program} {C : Ctx}

theorem one_rep {T : Tab} {w : World} {μ : Nat → Option Nat} {ro : Nat → Prop} {xs : List PV} {vs : List Value} (hl : xs.length = vs.length) (h : ∀ (i : Nat) x v, xs[i]? = some x → vs[i]? = some v → Rep T w μ ro x v) :
    Rep T w μ ro (oneRes xs) (if h : vs.toArray.size = 1 then vs.toArray[0] else .tuple vs.toArray) := by
  match xs, vs, hl, h with
  | [x], [v], _, h => exact h 0 x v rfl rfl
  | [], [], _, h => exact .tup [] #[] rfl (fun i x v hx _ => by simp at hx)
  | x :: y :: r, v :: u :: q, hl, h =>
    have : ¬ ((v :: u :: q).toArray.size = 1) := by simp
    rw [dif_neg this]
    exact .tup _ _ (by simpa using hl) (fun i x v hx hv => h i x v hx (by simpa using hv))

/-! The pieces of a code. -/

def codeAt : Code → List Nat → Code
  | c, [] => c
  | .seq a b, i :: p => cond (Nat.beq i 0) (codeAt a p) (codeAt b p)
  | .cond _ a b, i :: p => cond (Nat.beq i 0) (codeAt a p) (codeAt b p)
  | .block _ c, _ :: p => codeAt c p
  | .loop c, _ :: p => codeAt c p
  | c, _ => c
def codeOf (fn : Func) (p : List Nat) : Code := codeAt (fn.body.getD .skip) p

def loopsIn : Code → List Code
  | .seq a b => loopsIn a ++ loopsIn b
  | .cond _ a b => loopsIn a ++ loopsIn b
  | .block _ c => loopsIn c
  | .loop c => c :: loopsIn c
  | _ => []
def restsIn : Code → List Code
  | .seq a b => b :: (restsIn a ++ restsIn b)
  | .cond _ a b => restsIn a ++ restsIn b
  | .block _ c => restsIn c
  | .loop c => restsIn c
  | _ => []

def LoopOk (C : Ctx) (c : Code) : Prop := ∀ l, C.Λ (firstRegion c) = some l → ∀ t bs K, l t bs K → ∃ n, evLoop C c n (mkSt t bs) (onSt K)
def RestOk (C : Ctx) (b : Code) : Prop := ∀ l, C.J (firstRegion b) = some l → ∀ t bs K, l t bs K → evC C b (mkSt t bs) (onSt K)

def allOk (p : Code → Prop) : List Code → Prop
  | [] => True
  | c :: r => p c ∧ allOk p r
theorem allOk_mem {p : Code → Prop} : ∀ {l : List Code}, allOk p l → ∀ c ∈ l, p c
  | _ :: _, h, c, hc => by
    rcases List.mem_cons.1 hc with e | hc
    · exact e ▸ h.1
    · exact allOk_mem h.2 c hc

theorem LoopsOk.of_mem : ∀ (c : Code), (∀ b ∈ loopsIn c, LoopOk C b) → (∀ b ∈ restsIn c, RestOk C b) → LoopsOk C c
  | .seq a b, h, h' => ⟨h' b (by simp [restsIn]), LoopsOk.of_mem a (fun x hx => h x (by simp [loopsIn, hx])) (fun x hx => h' x (by simp [restsIn, hx])), LoopsOk.of_mem b (fun x hx => h x (by simp [loopsIn, hx])) (fun x hx => h' x (by simp [restsIn, hx]))⟩
  | .cond _ a b, h, h' => ⟨LoopsOk.of_mem a (fun x hx => h x (by simp [loopsIn, hx])) (fun x hx => h' x (by simp [restsIn, hx])), LoopsOk.of_mem b (fun x hx => h x (by simp [loopsIn, hx])) (fun x hx => h' x (by simp [restsIn, hx]))⟩
  | .block _ c, h, h' => LoopsOk.of_mem c h h'
  | .loop c, h, h' => ⟨h c (by simp [loopsIn]), LoopsOk.of_mem c (fun x hx => h x (by simp [loopsIn, hx])) h'⟩
  | .skip, _, _ | .region _ _ _, _, _ | .exit _, _, _ | .ret, _, _ | .rangeFunc _ _ _ _, _, _ | .scope _, _, _ | .label _, _, _ | .goto _, _, _ | .refuse _, _, _ => trivial

theorem LoopsOk.of {fn : Func} {l r : List Code} (hl : loopsIn (codeOf fn []) = l) (hr : restsIn (codeOf fn []) = r) (h : allOk (LoopOk C) l) (h' : allOk (RestOk C) r) : ∀ c, fn.body = some c → LoopsOk C c := by
  intro c hc
  have e : codeOf fn [] = c := by
    unfold codeOf; rw [hc]; cases c <;> rfl
  rw [e] at hl hr
  exact LoopsOk.of_mem c (fun b hb => allOk_mem h b (hl ▸ hb)) (fun b hb => allOk_mem h' b (hr ▸ hb))

/-- Nothing is looked at by itself. -/
theorem LoopsOk.of_loops {fn : Func} {l : List Code} (hJ : C.J = fun _ => none) (hl : loopsIn (codeOf fn []) = l) (h : allOk (LoopOk C) l) : ∀ c, fn.body = some c → LoopsOk C c := by
  refine LoopsOk.of hl rfl h ?_
  have : ∀ l : List Code, allOk (RestOk C) l := fun l => by
    induction l with
    | nil => trivial
    | cons c r ih => exact ⟨fun l hl => (by rw [hJ] at hl; cases hl), ih⟩
  exact this _

theorem LoopOk.of {c : Code} {l : LoopSem} (e : C.Λ (firstRegion c) = some l) (h : ∀ t bs K, l t bs K → ∃ n, evLoop C c n (mkSt t bs) (onSt K)) : LoopOk C c := fun l' e' => by
  rw [e] at e'; cases e'; exact h
theorem LoopOk.dead {c : Code} (e : C.Λ (firstRegion c) = Option.none) : LoopOk C c := fun l' e' => by
  rw [e] at e'; cases e'
theorem RestOk.of {c : Code} {l : LoopSem} (e : C.J (firstRegion c) = some l) (h : ∀ t bs K, l t bs K → evC C c (mkSt t bs) (onSt K)) : RestOk C c := fun l' e' => by
  rw [e] at e'; cases e'; exact h
theorem RestOk.none {c : Code} (e : C.J (firstRegion c) = Option.none) : RestOk C c := fun l' e' => by
  rw [e] at e'; cases e'

/-! Contracts. -/

def lookΦ : List (FuncId × FnSem) → FuncId → Option FnSem
  | [], _ => none
  | (g, φ) :: r, f => cond (Nat.beq g f) (some φ) (lookΦ r f)

def AllSound (P : Program) (T : Tab) (Γ : Globs) : List (FuncId × FnSem) → Prop
  | [] => True
  | (g, φ) :: r => (Sound P T Γ g φ ∧ Enters P g) ∧ AllSound P T Γ r

theorem AllSound.look {T : Tab} {Γ : Globs} : ∀ {l : List (FuncId × FnSem)}, AllSound P T Γ l → ∀ f φ, lookΦ l f = some φ → Sound P T Γ f φ ∧ Enters P f
  | [], _, f, φ, h => by simp [lookΦ] at h
  | (g, ψ) :: r, hs, f, φ, h => by
    unfold lookΦ at h
    cases e : Nat.beq g f with
    | true =>
      rw [e] at h; cases h
      have := Nat.eq_of_beq_eq_true e
      subst this; exact hs.1
    | false => rw [e] at h; exact hs.2.look f φ h

theorem Base.of {T : Tab} {Γ : Globs} {l : List (FuncId × FnSem)} {ref : FuncId → Nat → Bool} {Λ J : Nat → Option LoopSem} {keep : Nat → List Nat} {p : Nat} {mixed : Bool} {own : Nat → List (Nat × Nat)}
    (h1 : tabFits P T 0 T = true) (h2 : tabSized T = true) (h3 : EqSound P T) (h4 : AllSound P T Γ l) (h5 : P.follows .mixedOrders = true) : Base P ⟨T, Γ, lookΦ l, ref, Λ, J, keep, p, mixed, own⟩ :=
  ⟨h1, h2, h3, fun f φ e => (h4.look f φ e).1, fun f φ e => (h4.look f φ e).2, fun _ => h5⟩

theorem EqSound.none {T : Tab} (h : T.all (fun t => !t.eqOk) = true) : EqSound P T := by
  intro t ht
  have : (T.at t).eqOk = false := by
    unfold Tab.at
    rcases Nat.lt_or_ge t T.length with hl | hl
    · simp only [List.all_eq_true, Bool.not_eq_true'] at h
      simp only [List.getD, List.getElem?_eq_getElem hl, Option.getD_some]
      exact h _ (List.getElem_mem hl)
    · simp [List.getD, List.getElem?_eq_none hl]
  rw [this] at ht; cases ht

/-- A nil slice, as a slice of no elements. -/
def weakL : List (Option Nat) → List PV → List PV
  | some ty :: ts, x :: xs => (match x with | .nilsl => .list ty [] | x => x) :: weakL ts xs
  | none :: ts, x :: xs => x :: weakL ts xs
  | [], xs => xs
  | _, [] => []

theorem weakL_length : ∀ (ts : List (Option Nat)) (xs : List PV), (weakL ts xs).length = xs.length
  | [], xs => by simp [weakL]
  | some ty :: ts, x :: xs => by simp [weakL, weakL_length ts xs]
  | none :: ts, x :: xs => by simp [weakL, weakL_length ts xs]
  | some _ :: _, [] => rfl
  | none :: _, [] => rfl

theorem weakL_rep {T : Tab} {w : World} {μ : Nat → Option Nat} {ro : Nat → Prop} : ∀ (ts : List (Option Nat)) (xs : List PV) (vs : List Value), (∀ (i : Nat) x v, xs[i]? = some x → vs[i]? = some v → Rep T w μ ro x v) → ∀ (i : Nat) x v, (weakL ts xs)[i]? = some x → vs[i]? = some v → Rep T w μ ro x v
  | [], xs, vs, h, i, x, v, hx, hv => h i x v (by simpa [weakL] using hx) hv
  | t :: ts, [], vs, h, i, x, v, hx, hv => by cases t <;> simp [weakL] at hx
  | t :: ts, y :: xs, [], h, i, x, v, hx, hv => by simp at hv
  | t :: ts, y :: xs, u :: vs, h, i, x, v, hx, hv => by
    have h0 := h 0 y u rfl rfl
    have ih := weakL_rep ts xs vs (fun i x v hx hv => h (i + 1) x v (by simpa using hx) (by simpa using hv))
    cases i with
    | zero =>
      simp only [List.getElem?_cons_zero, Option.some.injEq] at hv
      subst hv
      cases t with
      | none => simp [weakL] at hx; subst hx; exact h0
      | some ty =>
        simp only [weakL, List.getElem?_cons_zero, Option.some.injEq] at hx
        subst hx
        split
        · rw [h0.nilsl_inv]; exact .listE _ _ _
        · exact h0
    | succ i => cases t <;> exact ih i x v (by simpa [weakL] using hx) (by simpa using hv)

theorem Sound.weak {T : Tab} {Γ : Globs} {f : FuncId} {φ : FnSem} (h : Sound P T Γ f φ) (ts : List (Option Nat)) : Sound P T Γ f (fun bs args K => φ bs (weakL ts args) K) := by
  intro bs args K hK w μ ro vs hl hr hL hn hG
  exact h bs _ K hK w μ ro vs (by rw [weakL_length]; exact hl) (fun i x v hx hv => weakL_rep ts args vs.toList (fun i x v hx hv => hr i x v hx (by simpa using hv)) i x v hx (by simpa using hv)) hL hn hG

/-! What a state or a list of arguments is asked to be. -/

def skU : Nat → List PV → List PV
  | 0, l => l
  | n + 1, l => .undef :: skU n l
def skipU : Nat → List PV → (List PV → Prop) → Prop
  | 0, l, K => K l
  | n + 1, l, K => match l with
    | .undef :: r => skipU n r K
    | _ => False
def slK (h ty : Nat) (x : PV) (K : Nat → Nat → Prop) : Prop :=
  match x with
  | .sl h' ty' i n => cond (Nat.beq h' h && Nat.beq ty' ty) (K i n) False
  | _ => False
def slK0 (h ty : Nat) (x : PV) (K : Nat → Prop) : Prop :=
  match x with
  | .sl h' ty' i n => cond (Nat.beq h' h && Nat.beq ty' ty && Nat.beq i 0) (K n) False
  | _ => False
def ptrK (h ty i : Nat) (p : List Nat) (x : PV) (K : Prop) : Prop :=
  match x with
  | .ptr h' ty' i' p' => cond (Nat.beq h' h && Nat.beq ty' ty && Nat.beq i' i && p' == p) K False
  | _ => False
def nilslK (x : PV) (K : Prop) : Prop := match x with | .nilsl => K | _ => False
def nilpK (x : PV) (K : Prop) : Prop := match x with | .nilp => K | _ => False
def tupK (x : PV) (K : List PV → Prop) : Prop := match x with | .tup l => K l | _ => False
def bRowK (l : Bool) (ty : Nat) (b : Blk) (K : List PV → Prop) : Prop :=
  match b with
  | .row l' ty' xs => cond (l == l' && Nat.beq ty' ty) (K xs) False
  | _ => False
def bBoxK (l : Bool) (ty : Nat) (b : Blk) (K : PV → Prop) : Prop :=
  match b with
  | .box l' ty' x => cond (l == l' && Nat.beq ty' ty) (K x) False
  | _ => False
def bConsK (l : List Blk) (K : Blk → List Blk → Prop) : Prop := match l with | a :: r => K a r | [] => False
def bNilK (l : List Blk) (K : Prop) : Prop := match l with | [] => K | _ :: _ => False

theorem skipU_inv : ∀ {n : Nat} {l : List PV} {K : List PV → Prop}, skipU n l K → ∃ r, l = skU n r ∧ K r
  | 0, l, K, h => ⟨l, rfl, h⟩
  | n + 1, l, K, h => by
    unfold skipU at h
    split at h
    · obtain ⟨r, e, hK⟩ := skipU_inv h
      exact ⟨r, by rw [e]; rfl, hK⟩
    · exact h.elim
theorem consK_inv {l : List PV} {K : PV → List PV → Prop} (h : consK l K) : ∃ a r, l = a :: r ∧ K a r := by
  cases l with
  | nil => exact h.elim
  | cons a r => exact ⟨a, r, rfl, h⟩
theorem nilK_inv {l : List PV} {K : Prop} (h : nilK l K) : l = [] ∧ K := by
  cases l with
  | nil => exact ⟨rfl, h⟩
  | cons a r => exact h.elim
theorem asIntK_inv {k : IntKind} {x : PV} {K : Int → Prop} (h : asIntK k x K) : ∃ n, x = .int k n ∧ K n := by
  unfold asIntK at h
  split at h
  · obtain ⟨h1, h2⟩ := cond_and h
    simp only [decide_eq_true_eq] at h1
    exact ⟨_, by rw [h1], h2⟩
  · exact h.elim
theorem asBoolK_inv {x : PV} {K : Bool → Prop} (h : asBoolK x K) : ∃ b, x = .bool b ∧ K b := by
  unfold asBoolK at h
  split at h
  · exact ⟨_, rfl, h⟩
  · exact h.elim
theorem asStrK_inv {x : PV} {K : ByteArray → Prop} (h : asStrK x K) : ∃ b, x = .str b ∧ K b := by
  unfold asStrK at h
  split at h
  · exact ⟨_, rfl, h⟩
  · exact h.elim
theorem asListK_inv {ty : Nat} {x : PV} {K : List PV → Prop} (h : asListK ty x K) : ∃ l, x = .list ty l ∧ K l := by
  unfold asListK at h
  split at h
  · obtain ⟨h1, h2⟩ := cond_and h
    have := Nat.eq_of_beq_eq_true h1
    exact ⟨_, by rw [this], h2⟩
  · exact h.elim
theorem asAggK_inv {x : PV} {K : List PV → Prop} (h : asAggK x K) : ∃ l, x = .agg l ∧ K l := by
  unfold asAggK at h
  split at h
  · exact ⟨_, rfl, h⟩
  · exact h.elim
theorem tupK_inv {x : PV} {K : List PV → Prop} (h : tupK x K) : ∃ l, x = .tup l ∧ K l := by
  unfold tupK at h
  split at h
  · exact ⟨_, rfl, h⟩
  · exact h.elim
theorem asArrK_inv {n : Nat} {x : PV} {K : List PV → Prop} (h : asArrK n x K) : ∃ l, x = .arr n l ∧ K l := by
  unfold asArrK at h
  split at h
  · obtain ⟨h1, h2⟩ := cond_and h
    have := Nat.eq_of_beq_eq_true h1
    exact ⟨_, by rw [this], h2⟩
  · exact h.elim
theorem slK_inv {h' ty : Nat} {x : PV} {K : Nat → Nat → Prop} (h : slK h' ty x K) : ∃ i n, x = .sl h' ty i n ∧ K i n := by
  unfold slK at h
  split at h
  · obtain ⟨h1, h2⟩ := cond_and h
    simp only [Bool.and_eq_true, Nat.beq_eq] at h1
    exact ⟨_, _, by rw [h1.1, h1.2], h2⟩
  · exact h.elim
theorem slK0_inv {h' ty : Nat} {x : PV} {K : Nat → Prop} (h : slK0 h' ty x K) : ∃ n, x = .sl h' ty 0 n ∧ K n := by
  unfold slK0 at h
  split at h
  · obtain ⟨h1, h2⟩ := cond_and h
    simp only [Bool.and_eq_true, Nat.beq_eq] at h1
    exact ⟨_, by rw [h1.1.1, h1.1.2, h1.2], h2⟩
  · exact h.elim
theorem ptrK_inv {h' ty i : Nat} {p : List Nat} {x : PV} {K : Prop} (h : ptrK h' ty i p x K) : x = .ptr h' ty i p ∧ K := by
  unfold ptrK at h
  split at h
  · obtain ⟨h1, h2⟩ := cond_and h
    simp only [Bool.and_eq_true, Nat.beq_eq, beq_iff_eq] at h1
    exact ⟨by rw [h1.1.1.1, h1.1.1.2, h1.1.2, h1.2], h2⟩
  · exact h.elim
theorem nilslK_inv {x : PV} {K : Prop} (h : nilslK x K) : x = .nilsl ∧ K := by
  unfold nilslK at h
  split at h
  · exact ⟨rfl, h⟩
  · exact h.elim
theorem nilpK_inv {x : PV} {K : Prop} (h : nilpK x K) : x = .nilp ∧ K := by
  unfold nilpK at h
  split at h
  · exact ⟨rfl, h⟩
  · exact h.elim
theorem bRowK_inv {l : Bool} {ty : Nat} {b : Blk} {K : List PV → Prop} (h : bRowK l ty b K) : ∃ xs, b = .row l ty xs ∧ K xs := by
  unfold bRowK at h
  split at h
  · obtain ⟨h1, h2⟩ := cond_and h
    simp only [Bool.and_eq_true, Nat.beq_eq, beq_iff_eq] at h1
    exact ⟨_, by rw [h1.1, h1.2], h2⟩
  · exact h.elim
theorem bBoxK_inv {l : Bool} {ty : Nat} {b : Blk} {K : PV → Prop} (h : bBoxK l ty b K) : ∃ x, b = .box l ty x ∧ K x := by
  unfold bBoxK at h
  split at h
  · obtain ⟨h1, h2⟩ := cond_and h
    simp only [Bool.and_eq_true, Nat.beq_eq, beq_iff_eq] at h1
    exact ⟨_, by rw [h1.1, h1.2], h2⟩
  · exact h.elim
theorem bConsK_inv {l : List Blk} {K : Blk → List Blk → Prop} (h : bConsK l K) : ∃ a r, l = a :: r ∧ K a r := by
  cases l with
  | nil => exact h.elim
  | cons a r => exact ⟨a, r, rfl, h⟩
theorem bNilK_inv {l : List Blk} {K : Prop} (h : bNilK l K) : l = [] ∧ K := by
  cases l with
  | nil => exact ⟨rfl, h⟩
  | cons a r => exact h.elim

/-- A function keeps its contract. -/
theorem evF_sound (hB : Base P C) {f : FuncId} {fn : Func} {φ : FnSem} (hf : P.funcs[f]? = some fn) (hl : ∀ c, fn.body = some c → LoopsOk C c) (hφ : ∀ bs args K, φ bs args K → evF C fn bs args K) : Sound P C.T C.Γ f φ := by
  intro bs args K hK w μ ro vs hlen hreps hL hnone hG
  have hev := hφ bs args K hK
  unfold evF at hev
  split at hev
  · exact hev.elim
  rename_i c hc
  obtain ⟨hp0, hev⟩ := hev
  refine (callsIn_wide (n := 0)).1 (callsIn_of_wp hf hc trivial ?_)
  have h0 : SR C w μ ro (hp bs) (fun _ => False) ⟨args ++ List.replicate (fn.ntmps - args.length) .undef, hp bs, bs.length⟩ { tmps := vs ++ Array.replicate (fn.ntmps - vs.size) undef, defers := [] } w μ ro := by
    refine ⟨rfl, by simp [hlen], fun i x v hx hv => ?_, hL, fun k hk _ => ⟨hp_gone (by simpa using hk), hnone k (by simpa using hk)⟩, hG, Since.refl _ _ _ _ _, by simp [hp0]⟩
    rcases Nat.lt_or_ge i args.length with hi | hi
    · rw [List.getElem?_append_left hi] at hx
      simp only at hv
      rw [Array.getElem?_append_left (by omega)] at hv
      exact hreps i x v hx hv
    · rw [List.getElem?_append_right hi] at hx
      have : x = .undef := (List.mem_replicate.1 (List.mem_of_getElem? hx)).2
      subst this; exact .undef v
  refine wpIn_mono (evC_sound (r := none) (n := 0) hB (fun _ => rfl) c _ _ w μ ro _ (hl c hc) hev h0) ?_
  intro e a' w' hq
  have fin : ∀ (s : St) (μ' : Nat → Option Nat) (ro' : Nat → Prop), (ress C.T s.t s.L fn.results.toList fun vs => tidy C.p vs s.L fun vs' bs' => K bs' vs') → SR C w μ ro (hp bs) (fun _ => False) s a' w' μ' ro' →
      a'.defers = [] ∧ ∃ v, (results fn a'.tmps).run P w' = .ok v w' ∧ ∃ v' bs' res μ'' ro'', Ending.returned v = .returned v' ∧ K bs' res ∧ Rep C.T w' μ'' ro'' (oneRes res) v' ∧ HRel C.T w' μ'' ro'' (hp bs') ∧ (∀ h, bs'.length ≤ h → μ'' h = none) ∧ bs.length ≤ bs'.length ∧ Since w μ ro (hp bs) bs.length w' μ'' ro'' (hp bs') := by
    intro s μ' ro' hr h'
    obtain ⟨us, xs, h1, h2, h3, h4⟩ := ress_sound hB h' _ _ hr
    refine ⟨h'.defers, if h : us.toArray.size = 1 then us.toArray[0] else .tuple us.toArray, ?_, ?_⟩
    · unfold results
      rw [Array.mapM_eq_mapM_toList]
      simp only [Sem.run_bind, Sem.run_map, Sem.run_pure]
      exact congrArg (fun r : Result (List Value) => (r.andThen fun a w' => .ok a.toArray w').andThen fun (a : Array Value) w' => .ok (if h : a.size = 1 then a[0] else Value.tuple a) w') h1
    · unfold tidy at h2
      simp only at h2
      obtain ⟨q, hR, hn⟩ := range_pre (p := C.p) (xs := xs) (L := s.L) (fuel := 60)
      generalize reach s.L 60 0 (addNew (List.range C.p) (PV.hss xs)) = R at h2 hR hn
      obtain ⟨hcl, hK⟩ := cond_and h2
      obtain ⟨hc1, hc2⟩ := closed_spec hcl
      refine ⟨_, _, _, muOf R μ', ro', rfl, hK, ?_, h'.heap.renum hn hcl, fun k hk => ?_, ?_, ?_⟩
      · refine one_rep (by rw [rens_eq]; simpa using h3) (fun i x v hx hv => ?_)
        rw [rens_eq, List.getElem?_map, Option.map_eq_some_iff] at hx
        obtain ⟨y, hy, rfl⟩ := hx
        exact (h4 i y v hy hv).ren (fun q hq => muOf_idx (hc1 y (List.mem_of_getElem? hy) q hq))
      · unfold muOf; rw [List.getElem?_eq_none (by simpa using hk)]; rfl
      · simp [hR, hp0]
      · rw [hp0]; exact h'.since.renum hR
  cases e with
  | normal => obtain ⟨s, μ', ro', h1, h2⟩ := hq; exact fin s μ' ro' h1 h2
  | ret => obtain ⟨s, μ', ro', h1, h2⟩ := hq; exact fin s μ' ro' h1 h2
  | exit id => obtain ⟨s, μ', ro', h1, h2⟩ := hq; exact h1.elim
  | goto l => exact hq.elim
  | panic ch => exact hq.elim
  | outgrown => exact hq.elim

end
end Pv
