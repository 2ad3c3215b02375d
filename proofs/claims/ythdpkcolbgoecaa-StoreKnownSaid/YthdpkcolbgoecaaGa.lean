/- The frame: a range over a function, whose iterator goes through a list. -/
import Derived.Test.YthdpkcolbgoecaaFi
import Derived.Test.YthdpkcolbgoecaaFf

namespace Pv
open Go

/-- An operation within a round is as elsewhere. -/
theorem upon_round {r : Option Nat} {n : Nat} {P : Program} {o : Oper} {a : Act} {next : Act → World → Prop} {Q : Exit → Act → World → Prop} {x : Result Next} (h : o.uponIn (Fw none) n P a next Q x) : o.uponIn (Fw r) n P a next Q x := by
  cases x with
  | ok y w => cases y <;> exact h
  | halt y w => cases y <;> exact h

theorem wpOp_round {r : Option Nat} {n : Nat} {P : Program} {ops : Array Oper} {Q : Exit → Act → World → Prop} {K K' : Act → World → Prop} (hd : noDefer ops = true) (hK : ∀ a w, K a w → K' a w) {i : Nat} {a : Act} {w : World} (h : wpOpIn (Fw none) n P ops Q i K a w) :
    wpOpIn (Fw r) n P ops Q i K' a w := by
  unfold wpOpIn at *
  split at h
  · exact hK a w h
  · rename_i o ho
    have hnd : ∀ c, o.op ≠ .defer c := fun c e => by
      unfold noDefer at hd
      rw [Array.all_eq_true'] at hd
      have := hd o (Array.mem_of_getElem? ho)
      rw [e] at this; cases this
    split at h
    · rename_i hw
      simp only [hw, if_true]
      have h := Oper.wpIn_mono hK h
      refine ⟨fun _ _ => trivial, ?_⟩
      have h2 := h.2
      rw [Oper.semAt_eq _ _ _ hnd] at h2 ⊢
      exact upon_round h2
    · rename_i hw
      simp only [hw, Bool.false_eq_true, if_false]
      exact ⟨fun _ _ => trivial, hK _ _ h.2⟩

theorem wpAny_round {r : Option Nat} {n : Nat} {P : Program} {md : Region.Mode} {ops : Array Oper} {Q : Exit → Act → World → Prop} (hd : noDefer ops = true) : ∀ (fuel : Nat) (listed : Array Bool) (a : Act) (w : World),
    wpAnyIn (Fw none) n P md ops Q fuel listed a w → wpAnyIn (Fw r) n P md ops Q fuel listed a w
  | 0, _, _, _, h => h
  | fuel + 1, _, _, _, h => ⟨h.1, fun i hi => wpOp_round hd (fun a w h => wpAny_round hd fuel _ a w h) (h.2 i hi)⟩

/-- What a round keeps beside what it is for. -/
structure RKeeps (fix priv : Nat → Prop) (l D : Nat) (A B : World) : Prop where
  loop : B.heap[l]? = A.heap[l]?
  defd : B.heap[D]? = A.heap[D]?
  same : ∀ b, fix b ∨ priv b → B.heap[b]? = A.heap[b]?
  size : A.heap.size ≤ B.heap.size

def rpost (fix priv : Nat → Prop) (l D : Nat) (I : Nat → World → Prop) (Ix : Code → Nat → World → Prop) (i : Nat) (A : World) : Exit → Act → World → Prop
  | .normal, _, B => RKeeps fix priv l D A B ∧ I (i + 1) B
  | .ret, _, B => RKeeps fix priv l D A B ∧ Ix .ret (i + 1) B
  | .exit id, _, B => RKeeps fix priv l D A B ∧ Ix (.exit id) (i + 1) B
  | _, _, _ => False

theorem putObj_grown (W : World) (l : Nat) (o : Obj) : (∀ x, x ≠ l → (W.putObj l o).heap[x]? = W.heap[x]?) ∧ (W.putObj l o).heap.size = W.heap.size := by
  refine ⟨fun x hx => World.putObj_heap_other hx, by simp [World.putObj]⟩

section
variable {n : Nat} {P : Program}

/-- A range over a function, by its iterators list. -/
theorem wpIn_rangeSeq {g : Operand} {ps : Array Tmp} {assign body : Code} {Q : Exit → Act → World → Prop} {a : Act} {w : World} {gf : Nat} {vs : Array Value} (hg : a.eval g = .func (.func gf) #[] vs)
    (eg : ∀ args w, (callFunc gf args).run P w = .ok (.enter gf args) w) {fix priv : Nat → Prop} (hfix : ∀ b, fix b ∨ priv b → b < w.heap.size) {encs : List (Array Value)} (hseq : SeqRuns P gf vs fix priv w encs) (hps : ∀ x ∈ encs, x.size = ps.size)
    (I : Nat → World → Prop) (Ix : Code → Nat → World → Prop)
    (hI : ∀ i A B, I i A → PrivChg priv A B → I i B) (hIx : ∀ c i A B, Ix c i A → PrivChg priv A B → Ix c i B)
    (hIl : ∀ i A o o', I i A → A.heap[w.heap.size + 1]? = some (.loop o) → I i (A.putObj (w.heap.size + 1) (.loop o'))) (hIxl : ∀ c i A o o', Ix c i A → A.heap[w.heap.size + 1]? = some (.loop o) → Ix c i (A.putObj (w.heap.size + 1) (.loop o')))
    (h0 : ∀ rec, I 0 ((w.alloc (.deferred (some []))).alloc (.loop rec)))
    (hround : ∀ i x A, encs[i]? = some x → I i A → (∀ b, fix b → A.heap[b]? = w.heap[b]?) → A.heap[w.heap.size]? = some (.deferred (some [])) → (∃ o, A.heap[w.heap.size + 1]? = some (.loop o)) →
      assign.wpIn (Fw (some (w.heap.size + 1))) (n - 1 - 1) P (Exit.then (fun a' B => RKeeps fix priv (w.heap.size + 1) w.heap.size A B ∧ ∀ o o', B.heap[w.heap.size + 1]? = some (.loop o) →
        body.wpIn (Fw (some (w.heap.size + 1))) (n - 1 - 1) P (rpost fix priv (w.heap.size + 1) w.heap.size I Ix i (A.putObj (w.heap.size + 1) (.loop o'))) a' (B.putObj (w.heap.size + 1) (.loop o'))) (fun _ _ _ => False))
      { tmps := (ps.zip x).foldl (fun t (p, v) => t.setIfInBounds p v) a.tmps, defers := [] } A)
    (hdone : ∀ B, I encs.length B → B.heap[w.heap.size]? = some (.deferred (some [])) → Q .normal { a with defers := { target := .collected w.heap.size, args := #[] } :: a.defers } B)
    (hstop : ∀ c i B, i ≤ encs.length → Ix c i B → B.heap[w.heap.size]? = some (.deferred (some [])) → c.wpIn (Fw none) n P Q { a with defers := { target := .collected w.heap.size, args := #[] } :: a.defers } B) :
    (Code.rangeFunc g ps assign body).wpIn (Fw none) n P Q a w := by
  refine wpIn_rangeFunc ?_
  intro fn _
  obtain ⟨rec, hrec⟩ : ∃ rec : LoopState → Option Code → Loop, rec = fun st pe => { state := st, pending := pe, fn, tmps := a.tmps, params := ps, assign, body, defers := w.heap.size } := ⟨_, rfl⟩
  obtain ⟨W1, hW1⟩ : ∃ W1, (w.alloc (.deferred (some []))).alloc (.loop (rec .ready none)) = W1 := ⟨_, rfl⟩
  have hL1 : W1.heap[w.heap.size + 1]? = some (.loop (rec .ready none)) := by
    rw [← hW1]; have := World.alloc_heap_new (w.alloc (.deferred (some []))) (.loop (rec .ready none)); rwa [World.size_alloc] at this
  have hK1 : W1.heap[w.heap.size]? = some (.deferred (some [])) := by
    rw [← hW1]; exact (Go.RowKit.Below.heap_alloc _ _ _ (by simp)).trans (World.alloc_heap_new w _)
  have hI1 : I 0 W1 := by rw [← hW1]; exact h0 _
  have hold : ∀ b, b < w.heap.size → W1.heap[b]? = w.heap[b]? := fun b hb => by
    rw [← hW1]; exact (Go.RowKit.Below.heap_alloc _ _ _ (by simp; omega)).trans (Go.RowKit.Below.heap_alloc _ _ _ hb)
  have hsz1 : w.heap.size ≤ W1.heap.size := by rw [← hW1]; simp; omega
  refine ⟨w.heap.size + 1, [{ target := .collected w.heap.size, args := #[] }], W1, { target := .fn (.func gf) vs, args := #[.func (.yield (w.heap.size + 1)) #[] #[]] }, W1, gf,
    #[.func (.yield (w.heap.size + 1)) #[] #[]] ++ vs, W1, ?_, ?_, fun _ _ => trivial, ?_, (fun h => by simp [Fw, Fence.wide] at h), ?_⟩
  · rw [← hW1, hrec]; exact run_enterLoop_outer _ _ _ _ _
  · simp only [resolve, hg]
    simp [go_sem]
  · simp [invoke, go_sem, eg]
  · have hne : ∀ {A B : World} {b : Nat}, PrivChg priv A B → w.heap.size ≤ b → b < A.heap.size → B.heap[b]? = A.heap[b]? := fun hg' hb hlt =>
      hg'.same _ hlt (fun e => by have := hfix _ (.inr e); omega)
    refine (hseq (n - 1) (w.heap.size + 1)
      (fun i W => I i W ∧ W.heap[w.heap.size + 1]? = some (.loop (rec .ready none)) ∧ W.heap[w.heap.size]? = some (.deferred (some [])))
      (fun i W => ∃ c, Ix c i W ∧ W.heap[w.heap.size + 1]? = some (.loop (rec .done (some c))) ∧ W.heap[w.heap.size]? = some (.deferred (some [])))
      W1 (fun b hb => hold b (hfix b hb)) hsz1
      (fun i A B hs hg' => ⟨hI i A B hs.1 hg', (hne hg' (by omega) (Array.getElem?_eq_some_iff.1 hs.2.1).1).trans hs.2.1, (hne hg' (Nat.le_refl _) (Array.getElem?_eq_some_iff.1 hs.2.2).1).trans hs.2.2⟩)
      (fun i A B hs hg' => by
        obtain ⟨c, hc, hl, hk⟩ := hs
        exact ⟨c, hIx c i A B hc hg', (hne hg' (by omega) (Array.getElem?_eq_some_iff.1 hl).1).trans hl, (hne hg' (Nat.le_refl _) (Array.getElem?_eq_some_iff.1 hk).1).trans hk⟩)
      ?_ ⟨hI1, hL1, hK1⟩).mono ?_
    · rintro i x A hx ⟨hi, hl, hk⟩ hfx
      have hy := run_yield (P := P) (args := x) hl (by rw [hrec]; exact hps x (List.mem_of_getElem? hx))
      rw [hrec] at hy
      refine ⟨fn, _, assign, body, hy, roundIn_of_wpIn (F := Fw none) trivial ?_⟩
      refine Code.wpIn_mono ?_ (hround i x A hx hi hfx hk ⟨_, hl⟩)
      intro e a' B hp
      cases e with
      | normal =>
        obtain ⟨hkp, hbody⟩ := hp
        have hlB : B.heap[w.heap.size + 1]? = some (.loop (rec .ready none)) := hkp.loop.trans hl
        have hkB : B.heap[w.heap.size]? = some (.deferred (some [])) := hkp.defd.trans hk
        refine ⟨_, run_beginRound hlB (by rw [hrec]), ?_⟩
        refine Code.wpIn_mono ?_ (hbody _ { rec .ready none with state := .busy } hlB)
        have hlt : w.heap.size + 1 < A.heap.size := (Array.getElem?_eq_some_iff.1 hl).1
        have hl2 : (A.putObj (w.heap.size + 1) (.loop { rec .ready none with state := .busy })).heap[w.heap.size + 1]? = some (.loop { rec .ready none with state := .busy }) := World.putObj_heap_same hlt
        have hk2 : (A.putObj (w.heap.size + 1) (.loop { rec .ready none with state := .busy })).heap[w.heap.size]? = some (.deferred (some [])) := (World.putObj_heap_other (by omega)).trans hk
        have hkeepB : ∀ b, fix b ∨ priv b → (A.putObj (w.heap.size + 1) (.loop { rec .ready none with state := .busy })).heap[b]? = A.heap[b]? := fun b hb => ((putObj_grown A _ _).1 b (by have := hfix b hb; omega))
        have hszB : A.heap.size ≤ (A.putObj (w.heap.size + 1) (.loop { rec .ready none with state := .busy })).heap.size := by rw [(putObj_grown A _ _).2]; exact Nat.le_refl _
        have fin : ∀ (jump : Option Code) (C : World), RKeeps fix priv (w.heap.size + 1) w.heap.size (A.putObj (w.heap.size + 1) (.loop { rec .ready none with state := .busy })) C →
            (Instr.endRound (w.heap.size + 1) jump).run P C = .ok (.bool jump.isNone) (C.putObj (w.heap.size + 1) (.loop (rec (if jump.isNone then .ready else .done) jump))) ∧
            C.heap[w.heap.size + 1]? = some (.loop { rec .ready none with state := .busy }) ∧
            (C.putObj (w.heap.size + 1) (.loop (rec (if jump.isNone then .ready else .done) jump))).heap[w.heap.size + 1]? = some (.loop (rec (if jump.isNone then .ready else .done) jump)) ∧
            (C.putObj (w.heap.size + 1) (.loop (rec (if jump.isNone then .ready else .done) jump))).heap[w.heap.size]? = some (.deferred (some [])) ∧
            (∀ b, fix b ∨ priv b → (C.putObj (w.heap.size + 1) (.loop (rec (if jump.isNone then .ready else .done) jump))).heap[b]? = A.heap[b]?) ∧
            A.heap.size ≤ (C.putObj (w.heap.size + 1) (.loop (rec (if jump.isNone then .ready else .done) jump))).heap.size := fun jump C hk3 => by
          have hl3 := hk3.loop.trans hl2
          have := run_endRound (P := P) jump hl3
          rw [hrec] at this ⊢
          refine ⟨this, by rw [hrec] at hl3; exact hl3, World.putObj_heap_same (Array.getElem?_eq_some_iff.1 hl3).1, (World.putObj_heap_other (by omega)).trans (hk3.defd.trans hk2), fun b hb => ?_, ?_⟩
          · exact ((putObj_grown C _ _).1 b (by have := hfix b hb; omega)).trans ((hk3.same b hb).trans (hkeepB b hb))
          · rw [(putObj_grown C _ _).2]; exact Nat.le_trans hszB hk3.size
        intro e a3 C hp
        cases e with
        | normal =>
          obtain ⟨hk3, hi3⟩ := hp
          obtain ⟨hr, hl3, hl4, hk4, hk5, hk6⟩ := fin none C hk3
          exact ⟨_, _, hr, .inl ⟨rfl, ⟨hIl _ _ _ _ hi3 hl3, hl4, hk4⟩, hk5, hk6⟩⟩
        | ret =>
          obtain ⟨hk3, hi3⟩ := hp
          obtain ⟨hr, hl3, hl4, hk4, hk5, hk6⟩ := fin (some .ret) C hk3
          exact ⟨_, _, hr, .inr ⟨rfl, .ret, hIxl _ _ _ _ _ hi3 hl3, hl4, hk4⟩⟩
        | exit id =>
          obtain ⟨hk3, hi3⟩ := hp
          obtain ⟨hr, hl3, hl4, hk4, hk5, hk6⟩ := fin (some (.exit id)) C hk3
          exact ⟨_, _, hr, .inr ⟨rfl, .exit id, hIxl _ _ _ _ _ hi3 hl3, hl4, hk4⟩⟩
        | goto t => exact hp.elim
        | panic ch => exact hp.elim
        | outgrown => exact hp.elim
      | ret => exact hp.elim
      | exit id => exact hp.elim
      | goto t => exact hp.elim
      | panic ch => exact hp.elim
      | outgrown => exact hp.elim
    · rintro e B ⟨⟨v, rfl⟩, (⟨hi, hl, hk⟩ | ⟨i, hle, c, hi, hl, hk⟩)⟩
      · have he := run_endLoop (P := P) hl (by rw [hrec]; simp)
        refine ⟨none, _, by rw [hrec] at he; exact he, hdone _ (hIl _ _ _ _ hi hl) ((World.putObj_heap_other (by omega)).trans hk)⟩
      · have he := run_endLoop (P := P) hl (by rw [hrec]; simp)
        refine ⟨some c, _, by rw [hrec] at he; exact he, hstop c i _ hle (hIxl _ _ _ _ _ hi hl) ((World.putObj_heap_other (by omega)).trans hk)⟩
end
end Pv
