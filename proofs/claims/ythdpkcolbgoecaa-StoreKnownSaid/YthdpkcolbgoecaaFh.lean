/- The frames twenty-second part: a function, by its body. -/
import Derived.Test.YthdpkcolbgoecaaGd
import Derived.Test.YthdpkcolbgoecaaGq

namespace Pv
open Go

section
variable {P : Program} {C : Ctx}

theorem one_rep {T : Tab} {w : World} {μ : Nat → Option Nat} {ro : Nat → Prop} {xs : List PV} {vs : List Value} (hl : xs.length = vs.length) (h : ∀ (i : Nat) x v, xs[i]? = some x → vs[i]? = some v → Rep T w μ ro x v) :
    Rep T w μ ro (oneRes xs) (if h : vs.toArray.size = 1 then vs.toArray[0] else .tuple vs.toArray) := by
  match xs, vs, hl, h with
  | [x], [v], _, h => exact h 0 x v rfl rfl
  | [], [], _, h => exact .tup [] #[] rfl (fun i x v hx _ => by simp at hx)
  | x :: y :: r, v :: u :: q, hl, h =>
    have : ¬ ((v :: u :: q).toArray.size = 1) := by simp
    rw [dif_neg this]
    exact .tup _ _ (by simpa using hl) (fun i x v hx hv => h i x v hx (by simpa using hv))

/-! The pieces of a code. -/

def codeAt : Code → List Nat → Code
  | c, [] => c
  | .seq a b, i :: p => cond (Nat.beq i 0) (codeAt a p) (codeAt b p)
  | .cond _ a b, i :: p => cond (Nat.beq i 0) (codeAt a p) (codeAt b p)
  | .block _ c, _ :: p => codeAt c p
  | .loop c, _ :: p => codeAt c p
  | .rangeFunc _ _ a b, i :: p => cond (Nat.beq i 0) (codeAt a p) (codeAt b p)
  | c, _ => c
def codeOf (fn : Func) (p : List Nat) : Code := codeAt (fn.body.getD .skip) p

def loopsIn : Code → List Code
  | .seq a b => loopsIn a ++ loopsIn b
  | .cond _ a b => loopsIn a ++ loopsIn b
  | .block _ c => loopsIn c
  | .loop c => c :: loopsIn c
  | _ => []
def restsIn : Code → List Code
  | .seq a b => b :: (restsIn a ++ restsIn b)
  | .cond _ a b => restsIn a ++ restsIn b
  | .block _ c => restsIn c
  | .loop c => restsIn c
  | _ => []

/-- The ranges over functions. -/
def rangesIn : Code → List (Array Tmp × Code × Code)
  | .seq a b => rangesIn a ++ rangesIn b
  | .cond _ a b => rangesIn a ++ rangesIn b
  | .block _ c => rangesIn c
  | .loop c => rangesIn c
  | .rangeFunc _ ps a b => [(ps, a, b)]
  | _ => []

def LoopOk (C : Ctx) (c : Code) : Prop := ∀ l, C.Λ (firstRegion c) = some l → ∀ t bs K, l t bs K → ∃ n, evLoop C c n (mkSt t bs) (onSt K)
def RestOk (C : Ctx) (b : Code) : Prop := ∀ l, C.J (firstRegion b) = some l → ∀ t bs K, l t bs K → evC C b (mkSt t bs) (onSt K)

def RangeOk (C : Ctx) (x : Array Tmp × Code × Code) : Prop := ∀ pins l, C.R (firstRegion x.2.2) = some (pins, l) → (∀ xs t bs K, l xs t bs K → evRange { C with p := C.p + pins.length } x.1.toList x.2.1 x.2.2 t xs (hp bs) bs.length (onSt K)) ∧
  LoopsOk { C with p := C.p + pins.length } x.2.1 ∧ LoopsOk { C with p := C.p + pins.length } x.2.2

def allOk {α : Type} (p : α → Prop) : List α → Prop
  | [] => True
  | c :: r => p c ∧ allOk p r
theorem allOk_mem {α : Type} {p : α → Prop} : ∀ {l : List α}, allOk p l → ∀ c ∈ l, p c
  | _ :: _, h, c, hc => by
    rcases List.mem_cons.1 hc with e | hc
    · exact e ▸ h.1
    · exact allOk_mem h.2 c hc

theorem LoopsOk.of_mem : ∀ (c : Code), (∀ b ∈ loopsIn c, LoopOk C b) → (∀ b ∈ restsIn c, RestOk C b) → (∀ b ∈ rangesIn c, RangeOk C b) → LoopsOk C c
  | .seq a b, h, h', g => ⟨h' b (by simp [restsIn]), LoopsOk.of_mem a (fun x hx => h x (by simp [loopsIn, hx])) (fun x hx => h' x (by simp [restsIn, hx])) (fun x hx => g x (by simp [rangesIn, hx])),
      LoopsOk.of_mem b (fun x hx => h x (by simp [loopsIn, hx])) (fun x hx => h' x (by simp [restsIn, hx])) (fun x hx => g x (by simp [rangesIn, hx]))⟩
  | .cond _ a b, h, h', g => ⟨LoopsOk.of_mem a (fun x hx => h x (by simp [loopsIn, hx])) (fun x hx => h' x (by simp [restsIn, hx])) (fun x hx => g x (by simp [rangesIn, hx])),
      LoopsOk.of_mem b (fun x hx => h x (by simp [loopsIn, hx])) (fun x hx => h' x (by simp [restsIn, hx])) (fun x hx => g x (by simp [rangesIn, hx]))⟩
  | .block _ c, h, h', g => LoopsOk.of_mem c h h' g
  | .loop c, h, h', g => ⟨h c (by simp [loopsIn]), LoopsOk.of_mem c (fun x hx => h x (by simp [loopsIn, hx])) h' g⟩
  | .rangeFunc f ps a b, _, _, g => g (ps, a, b) (by simp [rangesIn])
  | .skip, _, _, _ | .region _ _ _, _, _, _ | .exit _, _, _, _ | .ret, _, _, _ | .scope _, _, _, _ | .label _, _, _, _ | .goto _, _, _, _ | .refuse _, _, _, _ => by unfold LoopsOk; trivial

theorem LoopsOk.code {c : Code} {l r : List Code} {g : List (Array Tmp × Code × Code)} (hl : loopsIn c = l) (hr : restsIn c = r) (hg : rangesIn c = g) (h : allOk (LoopOk C) l) (h' : allOk (RestOk C) r) (h'' : allOk (RangeOk C) g) : LoopsOk C c :=
  LoopsOk.of_mem c (fun b hb => allOk_mem h b (hl ▸ hb)) (fun b hb => allOk_mem h' b (hr ▸ hb)) (fun b hb => allOk_mem h'' b (hg ▸ hb))

theorem LoopsOk.of {fn : Func} {l r : List Code} {g : List (Array Tmp × Code × Code)} (hl : loopsIn (codeOf fn []) = l) (hr : restsIn (codeOf fn []) = r) (hg : rangesIn (codeOf fn []) = g) (h : allOk (LoopOk C) l) (h' : allOk (RestOk C) r) (h'' : allOk (RangeOk C) g) : ∀ c, fn.body = some c → LoopsOk C c := by
  intro c hc
  have e : codeOf fn [] = c := by
    unfold codeOf; rw [hc]; cases c <;> rfl
  rw [e] at hl hr hg
  exact LoopsOk.code hl hr hg h h' h''

theorem RestOk.all (hJ : C.J = fun _ => none) : ∀ l : List Code, allOk (RestOk C) l
  | [] => trivial
  | _ :: r => ⟨fun l hl => (by rw [hJ] at hl; cases hl), RestOk.all hJ r⟩

/-- Nothing is looked at by itself. -/
theorem LoopsOk.of_loops {fn : Func} {l : List Code} (hJ : C.J = fun _ => none) (hl : loopsIn (codeOf fn []) = l) (hg : rangesIn (codeOf fn []) = []) (h : allOk (LoopOk C) l) : ∀ c, fn.body = some c → LoopsOk C c :=
  LoopsOk.of hl rfl hg h (RestOk.all hJ _) trivial

theorem RangeOk.of {x : Array Tmp × Code × Code} {pins : List Nat} {l : List (List PV) → LoopSem} (e : C.R (firstRegion x.2.2) = some (pins, l))
    (h : ∀ xs t bs K, l xs t bs K → evRange { C with p := C.p + pins.length } x.1.toList x.2.1 x.2.2 t xs (hp bs) bs.length (onSt K)) (ha : LoopsOk { C with p := C.p + pins.length } x.2.1) (hb : LoopsOk { C with p := C.p + pins.length } x.2.2) : RangeOk C x := fun pins' l' e' => by
  rw [e] at e'; cases e'; exact ⟨h, ha, hb⟩

theorem LoopOk.of {c : Code} {l : LoopSem} (e : C.Λ (firstRegion c) = some l) (h : ∀ t bs K, l t bs K → ∃ n, evLoop C c n (mkSt t bs) (onSt K)) : LoopOk C c := fun l' e' => by
  rw [e] at e'; cases e'; exact h
theorem LoopOk.dead {c : Code} (e : C.Λ (firstRegion c) = Option.none) : LoopOk C c := fun l' e' => by
  rw [e] at e'; cases e'
theorem RestOk.of {c : Code} {l : LoopSem} (e : C.J (firstRegion c) = some l) (h : ∀ t bs K, l t bs K → evC C c (mkSt t bs) (onSt K)) : RestOk C c := fun l' e' => by
  rw [e] at e'; cases e'; exact h
theorem RestOk.to {c : Code} {l : LoopSem} (e : C.J (firstRegion c) = some l) (h : ∀ t bs K, l t bs K → ∃ t' bs', t = t' ∧ bs = bs' ∧ evC C c (mkSt t' bs') (onSt K)) : RestOk C c :=
  RestOk.of e fun t bs K hl => by
    obtain ⟨t', bs', e1, e2, h⟩ := h t bs K hl
    rw [e1, e2]; exact h
theorem RangeOk.to {x : Array Tmp × Code × Code} {pins : List Nat} {l : List (List PV) → LoopSem} (e : C.R (firstRegion x.2.2) = some (pins, l))
    (h : ∀ xs t bs K, l xs t bs K → ∃ xs' t' bs', xs = xs' ∧ t = t' ∧ bs = bs' ∧ evRange { C with p := C.p + pins.length } x.1.toList x.2.1 x.2.2 t' xs' (hp bs') bs'.length (onSt K)) (ha : LoopsOk { C with p := C.p + pins.length } x.2.1) (hb : LoopsOk { C with p := C.p + pins.length } x.2.2) : RangeOk C x :=
  RangeOk.of e (fun xs t bs K hl => by
    obtain ⟨xs', t', bs', e1, e2, e3, h⟩ := h xs t bs K hl
    rw [e1, e2, e3]; exact h) ha hb
theorem evF_to {fn : Func} {φ : FnSem} (h : ∀ bs args K, φ bs args K → ∃ bs' args', bs = bs' ∧ args = args' ∧ evF C fn bs' args' K) : ∀ bs args K, φ bs args K → evF C fn bs args K := fun bs args K hφ => by
  obtain ⟨bs', args', e1, e2, h⟩ := h bs args K hφ
  rw [e1, e2]; exact h
theorem RestOk.none {c : Code} (e : C.J (firstRegion c) = Option.none) : RestOk C c := fun l' e' => by
  rw [e] at e'; cases e'

/-! Contracts. -/

def lookΦ : List (FuncId × FnSem) → FuncId → Option FnSem
  | [], _ => none
  | (g, φ) :: r, f => cond (Nat.beq g f) (some φ) (lookΦ r f)

def AllSound (P : Program) (T : Tab) (Γ : Globs) : List (FuncId × FnSem) → Prop
  | [] => True
  | (g, φ) :: r => (Sound P T Γ g φ ∧ Enters P g) ∧ AllSound P T Γ r

theorem AllSound.look {T : Tab} {Γ : Globs} : ∀ {l : List (FuncId × FnSem)}, AllSound P T Γ l → ∀ f φ, lookΦ l f = some φ → Sound P T Γ f φ ∧ Enters P f
  | [], _, f, φ, h => by simp [lookΦ] at h
  | (g, ψ) :: r, hs, f, φ, h => by
    unfold lookΦ at h
    cases e : Nat.beq g f with
    | true =>
      rw [e] at h; cases h
      have := Nat.eq_of_beq_eq_true e
      subst this; exact hs.1
    | false => rw [e] at h; exact hs.2.look f φ h

def lookIt : List (FuncId × ItSem) → FuncId → Option ItSem
  | [], _ => none
  | (g, φ) :: r, f => cond (Nat.beq g f) (some φ) (lookIt r f)

def AllIt (P : Program) (T : Tab) (Γ : Globs) : List (FuncId × ItSem) → Prop
  | [] => True
  | (g, φ) :: r => (ItSound P T Γ g φ ∧ Enters P g) ∧ AllIt P T Γ r

theorem AllIt.look {T : Tab} {Γ : Globs} : ∀ {l : List (FuncId × ItSem)}, AllIt P T Γ l → ∀ f φ, lookIt l f = some φ → ItSound P T Γ f φ ∧ Enters P f
  | [], _, f, φ, h => by simp [lookIt] at h
  | (g, ψ) :: r, hs, f, φ, h => by
    unfold lookIt at h
    cases e : Nat.beq g f with
    | true =>
      rw [e] at h; cases h
      have := Nat.eq_of_beq_eq_true e
      subst this; exact hs.1
    | false => rw [e] at h; exact hs.2.look f φ h

theorem Base.of {T : Tab} {Γ : Globs} {l : List (FuncId × FnSem)} {ref : FuncId → Nat → Bool} {Λ J : Nat → Option LoopSem} {keep : Nat → List Nat} {p : Nat} {mixed : Bool} {own : Nat → List (Nat × Nat)} {ownB : Nat → List (Nat × List Nat × Nat)} {it : List (FuncId × ItSem)}
    {R : Nat → Option (List Nat × (List (List PV) → LoopSem))} {frz : Nat → List (Nat × Option (Nat × Option Nat))} {frzB need : Nat → List Nat}
    (h1 : tabFits P T 0 T = true) (h2 : tabSized T = true) (h3 : EqSound P T) (h4 : AllSound P T Γ l) (h5 : P.follows .mixedOrders = true) (h6 : AllIt P T Γ it) : Base P ⟨T, Γ, lookΦ l, ref, Λ, J, keep, p, mixed, own, ownB, lookIt it, R, frz, frzB, need⟩ :=
  ⟨h1, h2, h3, fun f φ e => (h4.look f φ e).1, fun f φ e => (h4.look f φ e).2, fun _ => h5, fun g φ e => h6.look g φ e⟩

theorem EqSound.none {T : Tab} (h : T.all (fun t => t.eqL.isEmpty) = true) : EqSound P T := by
  intro t ht
  have : (T.at t).eqL.isEmpty = true := by
    unfold Tab.at
    rcases Nat.lt_or_ge t T.length with hl | hl
    · simp only [List.all_eq_true] at h
      simp only [List.getD, List.getElem?_eq_getElem hl, Option.getD_some]
      exact h _ (List.getElem_mem hl)
    · simp [List.getD, List.getElem?_eq_none hl]
  exact absurd (List.isEmpty_iff.1 this) ht

def weakL : List (Option (Nat × Option Nat)) → List PV → List PV
  | t :: ts, x :: xs => weak1 t x :: weakL ts xs
  | [], xs => xs
  | _, [] => []

theorem weakL_length : ∀ (ts : List (Option (Nat × Option Nat))) (xs : List PV), (weakL ts xs).length = xs.length
  | [], xs => by simp [weakL]
  | t :: ts, x :: xs => by simp [weakL, weakL_length ts xs]
  | _ :: _, [] => rfl

theorem weakL_rep {T : Tab} {w : World} {μ : Nat → Option Nat} {ro : Nat → Prop} : ∀ (ts : List (Option (Nat × Option Nat))) (xs : List PV) (vs : List Value), (∀ (i : Nat) x v, xs[i]? = some x → vs[i]? = some v → Rep T w μ ro x v) → ∀ (i : Nat) x v, (weakL ts xs)[i]? = some x → vs[i]? = some v → Rep T w μ ro x v
  | [], xs, vs, h, i, x, v, hx, hv => h i x v (by simpa [weakL] using hx) hv
  | t :: ts, [], vs, h, i, x, v, hx, hv => by simp [weakL] at hx
  | t :: ts, y :: xs, [], h, i, x, v, hx, hv => by simp at hv
  | t :: ts, y :: xs, u :: vs, h, i, x, v, hx, hv => by
    have h0 := h 0 y u rfl rfl
    have ih := weakL_rep ts xs vs (fun i x v hx hv => h (i + 1) x v (by simpa using hx) (by simpa using hv))
    cases i with
    | zero =>
      simp only [weakL, List.getElem?_cons_zero, Option.some.injEq] at hx hv
      subst hv; subst hx
      exact weak1_rep t h0
    | succ i => exact ih i x v (by simpa [weakL] using hx) (by simpa using hv)

theorem Sound.weak {T : Tab} {Γ : Globs} {f : FuncId} {φ : FnSem} (h : Sound P T Γ f φ) (ts : List (Option (Nat × Option Nat))) : Sound P T Γ f (fun bs args K => φ bs (weakL ts args) K) := by
  intro bs args K hK w μ ro vs hl hr hL hn hG
  exact h bs _ K hK w μ ro vs (by rw [weakL_length]; exact hl) (fun i x v hx hv => weakL_rep ts args vs.toList (fun i x v hx hv => hr i x v hx (by simpa using hv)) i x v hx (by simpa using hv)) hL hn hG

/-! What a state or a list of arguments is asked to be. -/

def skU : Nat → List PV → List PV
  | 0, l => l
  | n + 1, l => .undef :: skU n l
def skipU : Nat → List PV → (List PV → Prop) → Prop
  | 0, l, K => K l
  | n + 1, l, K => match l with
    | .undef :: r => skipU n r K
    | _ => False
def slK (h ty : Nat) (x : PV) (K : Nat → Nat → Prop) : Prop :=
  match x with
  | .sl h' ty' i n => cond (Nat.beq h' h && Nat.beq ty' ty) (K i n) False
  | _ => False
def slK0 (h ty : Nat) (x : PV) (K : Nat → Prop) : Prop :=
  match x with
  | .sl h' ty' i n => cond (Nat.beq h' h && Nat.beq ty' ty && Nat.beq i 0) (K n) False
  | _ => False
def ptrK (h ty i : Nat) (p : List Nat) (x : PV) (K : Prop) : Prop :=
  match x with
  | .ptr h' ty' i' p' => cond (Nat.beq h' h && Nat.beq ty' ty && Nat.beq i' i && p' == p) K False
  | _ => False
def nilslK (x : PV) (K : Prop) : Prop := match x with | .nilsl => K | _ => False
def nilpK (x : PV) (K : Prop) : Prop := match x with | .nilp => K | _ => False
def tupK (x : PV) (K : List PV → Prop) : Prop := match x with | .tup l => K l | _ => False
def bRowK (l : Bool) (ty : Nat) (b : Blk) (K : List PV → Prop) : Prop :=
  match b with
  | .row l' ty' xs => cond (l == l' && Nat.beq ty' ty) (K xs) False
  | _ => False
def bBoxK (l : Bool) (ty : Nat) (b : Blk) (K : PV → Prop) : Prop :=
  match b with
  | .box l' ty' x => cond (l == l' && Nat.beq ty' ty) (K x) False
  | _ => False
def bConsK (l : List Blk) (K : Blk → List Blk → Prop) : Prop := match l with | a :: r => K a r | [] => False
def bNilK (l : List Blk) (K : Prop) : Prop := match l with | [] => K | _ :: _ => False

theorem skipU_inv : ∀ {n : Nat} {l : List PV} {K : List PV → Prop}, skipU n l K → ∃ r, l = skU n r ∧ K r
  | 0, l, K, h => ⟨l, rfl, h⟩
  | n + 1, l, K, h => by
    unfold skipU at h
    split at h
    · obtain ⟨r, e, hK⟩ := skipU_inv h
      exact ⟨r, by rw [e]; rfl, hK⟩
    · exact h.elim
theorem consK_inv {l : List PV} {K : PV → List PV → Prop} (h : consK l K) : ∃ a r, l = a :: r ∧ K a r := by
  cases l with
  | nil => exact h.elim
  | cons a r => exact ⟨a, r, rfl, h⟩
theorem nilK_inv {l : List PV} {K : Prop} (h : nilK l K) : l = [] ∧ K := by
  cases l with
  | nil => exact ⟨rfl, h⟩
  | cons a r => exact h.elim
theorem asIntK_inv {k : IntKind} {x : PV} {K : Int → Prop} (h : asIntK k x K) : ∃ n, x = .int k n ∧ K n := by
  unfold asIntK at h
  split at h
  · obtain ⟨h1, h2⟩ := cond_and h
    simp only [decide_eq_true_eq] at h1
    exact ⟨_, by rw [h1], h2⟩
  · exact h.elim
theorem asBoolK_inv {x : PV} {K : Bool → Prop} (h : asBoolK x K) : ∃ b, x = .bool b ∧ K b := by
  unfold asBoolK at h
  split at h
  · exact ⟨_, rfl, h⟩
  · exact h.elim
theorem asStrK_inv {x : PV} {K : ByteArray → Prop} (h : asStrK x K) : ∃ b, x = .str b ∧ K b := by
  unfold asStrK at h
  split at h
  · exact ⟨_, rfl, h⟩
  · exact h.elim
theorem asListK_inv {ty : Nat} {x : PV} {K : List PV → Prop} (h : asListK ty x K) : ∃ l, x = .list ty l ∧ K l := by
  unfold asListK at h
  split at h
  · obtain ⟨h1, h2⟩ := cond_and h
    have := Nat.eq_of_beq_eq_true h1
    exact ⟨_, by rw [this], h2⟩
  · exact h.elim
theorem asAggK_inv {x : PV} {K : List PV → Prop} (h : asAggK x K) : ∃ l, x = .agg l ∧ K l := by
  unfold asAggK at h
  split at h
  · exact ⟨_, rfl, h⟩
  · exact h.elim
theorem tupK_inv {x : PV} {K : List PV → Prop} (h : tupK x K) : ∃ l, x = .tup l ∧ K l := by
  unfold tupK at h
  split at h
  · exact ⟨_, rfl, h⟩
  · exact h.elim
theorem asArrK_inv {n : Nat} {x : PV} {K : List PV → Prop} (h : asArrK n x K) : ∃ l, x = .arr n l ∧ K l := by
  unfold asArrK at h
  split at h
  · obtain ⟨h1, h2⟩ := cond_and h
    have := Nat.eq_of_beq_eq_true h1
    exact ⟨_, by rw [this], h2⟩
  · exact h.elim
theorem slK_inv {h' ty : Nat} {x : PV} {K : Nat → Nat → Prop} (h : slK h' ty x K) : ∃ i n, x = .sl h' ty i n ∧ K i n := by
  unfold slK at h
  split at h
  · obtain ⟨h1, h2⟩ := cond_and h
    simp only [Bool.and_eq_true, Nat.beq_eq] at h1
    exact ⟨_, _, by rw [h1.1, h1.2], h2⟩
  · exact h.elim
theorem slK0_inv {h' ty : Nat} {x : PV} {K : Nat → Prop} (h : slK0 h' ty x K) : ∃ n, x = .sl h' ty 0 n ∧ K n := by
  unfold slK0 at h
  split at h
  · obtain ⟨h1, h2⟩ := cond_and h
    simp only [Bool.and_eq_true, Nat.beq_eq] at h1
    exact ⟨_, by rw [h1.1.1, h1.1.2, h1.2], h2⟩
  · exact h.elim
theorem ptrK_inv {h' ty i : Nat} {p : List Nat} {x : PV} {K : Prop} (h : ptrK h' ty i p x K) : x = .ptr h' ty i p ∧ K := by
  unfold ptrK at h
  split at h
  · obtain ⟨h1, h2⟩ := cond_and h
    simp only [Bool.and_eq_true, Nat.beq_eq, beq_iff_eq] at h1
    exact ⟨by rw [h1.1.1.1, h1.1.1.2, h1.1.2, h1.2], h2⟩
  · exact h.elim
theorem nilslK_inv {x : PV} {K : Prop} (h : nilslK x K) : x = .nilsl ∧ K := by
  unfold nilslK at h
  split at h
  · exact ⟨rfl, h⟩
  · exact h.elim
theorem nilpK_inv {x : PV} {K : Prop} (h : nilpK x K) : x = .nilp ∧ K := by
  unfold nilpK at h
  split at h
  · exact ⟨rfl, h⟩
  · exact h.elim
theorem bRowK_inv {l : Bool} {ty : Nat} {b : Blk} {K : List PV → Prop} (h : bRowK l ty b K) : ∃ xs, b = .row l ty xs ∧ K xs := by
  unfold bRowK at h
  split at h
  · obtain ⟨h1, h2⟩ := cond_and h
    simp only [Bool.and_eq_true, Nat.beq_eq, beq_iff_eq] at h1
    exact ⟨_, by rw [h1.1, h1.2], h2⟩
  · exact h.elim
theorem bBoxK_inv {l : Bool} {ty : Nat} {b : Blk} {K : PV → Prop} (h : bBoxK l ty b K) : ∃ x, b = .box l ty x ∧ K x := by
  unfold bBoxK at h
  split at h
  · obtain ⟨h1, h2⟩ := cond_and h
    simp only [Bool.and_eq_true, Nat.beq_eq, beq_iff_eq] at h1
    exact ⟨_, by rw [h1.1, h1.2], h2⟩
  · exact h.elim
theorem bConsK_inv {l : List Blk} {K : Blk → List Blk → Prop} (h : bConsK l K) : ∃ a r, l = a :: r ∧ K a r := by
  cases l with
  | nil => exact h.elim
  | cons a r => exact ⟨a, r, rfl, h⟩
theorem bNilK_inv {l : List Blk} {K : Prop} (h : bNilK l K) : l = [] ∧ K := by
  cases l with
  | nil => exact ⟨rfl, h⟩
  | cons a r => exact h.elim

def dmapK (kt et : Nat) (x : PV) (K : List PV → Prop) : Prop :=
  match x with
  | .dmap kt' et' en => cond (Nat.beq kt' kt && Nat.beq et' et) (K en) False
  | _ => False
def maprK (h : Nat) (x : PV) (K : Prop) : Prop := match x with | .mapr h' => cond (Nat.beq h' h) K False | _ => False
def nilmK (x : PV) (K : Prop) : Prop := match x with | .nilm => K | _ => False
def nilfK (x : PV) (K : Prop) : Prop := match x with | .nilf => K | _ => False
def fnK (f : Nat) (x : PV) (K : List PV → Prop) : Prop := match x with | .fn f' cs => cond (Nat.beq f' f) (K cs) False | _ => False
def bMapK (l : Bool) (kt et : Nat) (b : Blk) (K : List PV → Prop) : Prop :=
  match b with
  | .map l' kt' et' en => cond (l == l' && Nat.beq kt' kt && Nat.beq et' et) (K en) False
  | _ => False
def bIterK (l : Bool) (kt et : Nat) (b : Blk) (K : List PV → PV → Prop) : Prop :=
  match b with
  | .iter l' kt' et' rest cur => cond (l == l' && Nat.beq kt' kt && Nat.beq et' et) (K rest cur) False
  | _ => False
def undefK (x : PV) (K : Prop) : Prop := match x with | .undef => K | _ => False
def bGoneK (b : Blk) (K : Prop) : Prop := match b with | .gone => K | _ => False
theorem dmapK_inv {kt et : Nat} {x : PV} {K : List PV → Prop} (h : dmapK kt et x K) : ∃ en, x = .dmap kt et en ∧ K en := by
  unfold dmapK at h
  split at h
  · obtain ⟨h1, h2⟩ := cond_and h
    simp only [Bool.and_eq_true, Nat.beq_eq] at h1
    exact ⟨_, by rw [h1.1, h1.2], h2⟩
  · exact h.elim
theorem maprK_inv {h' : Nat} {x : PV} {K : Prop} (h : maprK h' x K) : x = .mapr h' ∧ K := by
  unfold maprK at h
  split at h
  · obtain ⟨h1, h2⟩ := cond_and h
    exact ⟨by rw [Nat.eq_of_beq_eq_true h1], h2⟩
  · exact h.elim
theorem nilmK_inv {x : PV} {K : Prop} (h : nilmK x K) : x = .nilm ∧ K := by
  unfold nilmK at h
  split at h
  · exact ⟨rfl, h⟩
  · exact h.elim
theorem nilfK_inv {x : PV} {K : Prop} (h : nilfK x K) : x = .nilf ∧ K := by
  unfold nilfK at h
  split at h
  · exact ⟨rfl, h⟩
  · exact h.elim
theorem undefK_inv {x : PV} {K : Prop} (h : undefK x K) : x = .undef ∧ K := by
  unfold undefK at h
  split at h
  · exact ⟨rfl, h⟩
  · exact h.elim
theorem bGoneK_inv {b : Blk} {K : Prop} (h : bGoneK b K) : b = .gone ∧ K := by
  unfold bGoneK at h
  split at h
  · exact ⟨rfl, h⟩
  · exact h.elim
theorem fnK_inv {f : Nat} {x : PV} {K : List PV → Prop} (h : fnK f x K) : ∃ cs, x = .fn f cs ∧ K cs := by
  unfold fnK at h
  split at h
  · obtain ⟨h1, h2⟩ := cond_and h
    exact ⟨_, by rw [Nat.eq_of_beq_eq_true h1], h2⟩
  · exact h.elim
theorem bMapK_inv {l : Bool} {kt et : Nat} {b : Blk} {K : List PV → Prop} (h : bMapK l kt et b K) : ∃ en, b = .map l kt et en ∧ K en := by
  unfold bMapK at h
  split at h
  · obtain ⟨h1, h2⟩ := cond_and h
    simp only [Bool.and_eq_true, Nat.beq_eq, beq_iff_eq] at h1
    exact ⟨_, by rw [h1.1.1, h1.1.2, h1.2], h2⟩
  · exact h.elim
theorem bIterK_inv {l : Bool} {kt et : Nat} {b : Blk} {K : List PV → PV → Prop} (h : bIterK l kt et b K) : ∃ rest cur, b = .iter l kt et rest cur ∧ K rest cur := by
  unfold bIterK at h
  split at h
  · obtain ⟨h1, h2⟩ := cond_and h
    simp only [Bool.and_eq_true, Nat.beq_eq, beq_iff_eq] at h1
    exact ⟨_, _, by rw [h1.1.1, h1.1.2, h1.2], h2⟩
  · exact h.elim
def vptrK (ty : Nat) (p : List Nat) (x : PV) (K : PV → Prop) : Prop := match x with | .vptr ty' y p' => cond (Nat.beq ty' ty && p' == p) (K y) False | _ => False
theorem vptrK_inv {ty : Nat} {p : List Nat} {x : PV} {K : PV → Prop} (h : vptrK ty p x K) : ∃ y, x = .vptr ty y p ∧ K y := by
  unfold vptrK at h
  split at h
  · obtain ⟨h1, h2⟩ := cond_and h
    simp only [Bool.and_eq_true, Nat.beq_eq, beq_iff_eq] at h1
    exact ⟨_, by rw [h1.1, h1.2], h2⟩
  · exact h.elim

/-- On the way out of a function: its marks are taken. -/
theorem leaves_marks {n : Nat} {fn : Func} {R : Ending → World → Prop} {w : World} {μ μ' : Nat → Option Nat} {ro ro' : Nat → Prop} {L0 : Heap} {s : St} {t : Array Value} : ∀ (ds : List Deferred) (w' : World), SR C w μ ro L0 (fun _ => False) s { tmps := t, defers := ds } w' μ' ro' →
    (∀ w'', SR C w μ ro L0 (fun _ => False) s { tmps := t, defers := [] } w'' μ' ro' → ∃ v, (results fn t).run P w'' = .ok v w'' ∧ R (.returned v) w'') → LeavesInM (Fw none) n P fn t R ds .returning w'
  | [], w', h, hK => hK w' h
  | d :: ds, w', h, hK => by
    obtain ⟨Ds, h1, h2, h3⟩ := h.defers
    cases Ds with
    | nil => cases h1
    | cons D Ds =>
    simp only [List.map_cons, List.cons.injEq] at h1
    obtain ⟨rfl, e1⟩ := h1
    obtain ⟨h4, h5, h6⟩ := h3 D (by simp)
    have hput : ∀ x, x ≠ D → (w'.putObj D (.deferred none)).heap[x]? = w'.heap[x]? := fun x hx => World.putObj_heap_other hx
    have hs : SR C w μ ro L0 (fun _ => False) s { tmps := t, defers := ds } w' μ' ro' := ⟨⟨Ds, e1, (List.nodup_cons.1 h2).2, fun D hD => h3 D (by simp [hD])⟩, h.len, h.tmps, h.heap, h.fresh, h.glob, h.since, h.pn⟩
    refine ⟨by simp, .inl ⟨D, _, rfl, run_takeDeferred h4, leaves_marks ds _ (hs.aside ⟨rfl, rfl, rfl, by rw [(putObj_grown w' _ _).2]; exact Nat.le_refl _, fun b hb hne => ?_, fun b c tt fr hc => ⟨c, fr, ?_, rfl⟩⟩ (fun b hb _ => hput b (by omega)) (fun D' hD' _ => hput D' fun e => ?_)) hK⟩⟩
    · have e : b = D := Classical.byContradiction fun e => hne (hput b e)
      subst e
      exact ⟨h6, fun q hq hm => not_live h.heap hq hm h4 (by simp) (by simp) (by simp)⟩
    · rw [hput b (fun e => by subst e; rw [h4] at hc; cases hc)]; exact hc
    · subst e
      simp only at hD'
      rw [e1] at hD'
      obtain ⟨x, hx, ex⟩ := List.mem_map.1 hD'
      simp only [mark, Deferred.mk.injEq, Target.collected.injEq, and_true] at ex
      subst ex
      exact (List.nodup_cons.1 h2).1 hx

/-- A function keeps its contract. -/
theorem evF_sound (hB : Base P C) {f : FuncId} {fn : Func} {φ : FnSem} (hf : P.funcs[f]? = some fn) (hl : ∀ c, fn.body = some c → LoopsOk C c) (hφ : ∀ bs args K, φ bs args K → evF C fn bs args K) : Sound P C.T C.Γ f φ := by
  intro bs args K hK w μ ro vs hlen hreps hL hnone hG
  have hev := hφ bs args K hK
  unfold evF at hev
  split at hev
  · exact hev.elim
  rename_i c hc
  obtain ⟨hp0, hev⟩ := hev
  refine (callsIn_wide (n := 0)).1 (callsIn_of_wp_marks hf hc trivial ?_)
  have h0 : SR C w μ ro (hp bs) (fun _ => False) ⟨args ++ List.replicate (fn.ntmps - args.length) .undef, hp bs, bs.length⟩ { tmps := vs ++ Array.replicate (fn.ntmps - vs.size) undef, defers := [] } w μ ro := by
    refine ⟨Marks.nil _ _ _, by simp [hlen], fun i x v hx hv => ?_, hL, fun k hk _ => ⟨hp_gone (by simpa using hk), hnone k (by simpa using hk)⟩, hG, Since.refl _ _ _ _ _, by simp [hp0]⟩
    rcases Nat.lt_or_ge i args.length with hi | hi
    · rw [List.getElem?_append_left hi] at hx
      simp only at hv
      rw [Array.getElem?_append_left (by omega)] at hv
      exact hreps i x v hx hv
    · rw [List.getElem?_append_right hi] at hx
      have : x = .undef := (List.mem_replicate.1 (List.mem_of_getElem? hx)).2
      subst this; exact .undef v
  refine wpIn_mono (evC_sound c C hB none 0 (.inl rfl) w μ ro _ _ _ w μ ro _ (hl c hc) hev h0) ?_
  intro e a' w' hq
  have fin : ∀ (s : St) (μ' : Nat → Option Nat) (ro' : Nat → Prop), (ress C.T s.t s.L fn.results.toList fun vs => tidy C.p vs s.L fun vs' bs' => K bs' vs') → SR C w μ ro (hp bs) (fun _ => False) s a' w' μ' ro' →
      LeavesInM (Fw none) 0 P fn a'.tmps (fun e w' => ∃ v' bs' res μ'' ro'', e = .returned v' ∧ K bs' res ∧ Rep C.T w' μ'' ro'' (oneRes res) v' ∧ HRel C.T w' μ'' ro'' (hp bs') ∧ (∀ h, bs'.length ≤ h → μ'' h = none) ∧ bs.length ≤ bs'.length ∧ Since w μ ro (hp bs) bs.length w' μ'' ro'' (hp bs')) a'.defers .returning w' := by
    intro s μ' ro' hr h'
    refine leaves_marks a'.defers w' h' (fun w' h' => ?_)
    obtain ⟨us, xs, h1, h2, h3, h4⟩ := ress_sound hB h' _ _ hr
    refine ⟨if h : us.toArray.size = 1 then us.toArray[0] else .tuple us.toArray, ?_, ?_⟩
    · unfold results
      rw [Array.mapM_eq_mapM_toList]
      simp only [Sem.run_bind, Sem.run_map, Sem.run_pure]
      exact congrArg (fun r : Result (List Value) => (r.andThen fun a w' => .ok a.toArray w').andThen fun (a : Array Value) w' => .ok (if h : a.size = 1 then a[0] else Value.tuple a) w') h1
    · unfold tidy at h2
      rw [forceNs_eq] at h2
      obtain ⟨q, hR, hn⟩ := range_pre (p := C.p) (xs := xs) (L := s.L) (fuel := 60)
      generalize reach s.L 60 0 (addNew (List.range C.p) (PV.hss xs)) = R at h2 hR hn
      obtain ⟨hcl, hK⟩ := cond_and h2
      rw [forceVs_eq, forceBs_eq] at hK
      obtain ⟨hc1, hc2⟩ := closed_spec hcl
      refine ⟨_, _, _, muOf R μ', ro', rfl, hK, ?_, h'.heap.renum hn hcl, fun k hk => ?_, ?_, ?_⟩
      · refine one_rep (by rw [rens_eq]; simpa using h3) (fun i x v hx hv => ?_)
        rw [rens_eq, List.getElem?_map, Option.map_eq_some_iff] at hx
        obtain ⟨y, hy, rfl⟩ := hx
        exact (h4 i y v hy hv).ren (fun q hq => muOf_idx (hc1 y (List.mem_of_getElem? hy) q hq))
      · unfold muOf; rw [List.getElem?_eq_none (by simpa using hk)]; rfl
      · simp [hR, hp0]
      · rw [hp0]; exact h'.since.renum hR
  cases e with
  | normal => obtain ⟨s, μ', ro', h1, h2⟩ := hq; exact fin s μ' ro' h1 h2
  | ret => obtain ⟨s, μ', ro', h1, h2⟩ := hq; exact fin s μ' ro' h1 h2
  | exit id => obtain ⟨s, μ', ro', h1, h2⟩ := hq; exact h1.elim
  | goto l => exact hq.elim
  | panic ch => exact hq.elim
  | outgrown => exact hq.elim

end
end Pv
