/- What is handed in, as lists. -/
import Derived.Test.YthdpkcolbgoecaaSlQ
import Derived.Test.YthdpkcolbgoecaaStZ

namespace Pv
open Go Go.Proofs

theorem stOwn : ownKnob Try.prog.godebug = none := by kernel_rfl
theorem stLaid : laidOutB Try.prog = true := by kernel_rfl
theorem isTx {M n : Nat} {x : PV} (h : DataOf pvT M (n + 1) 9 x) : ∃ t : Tx, x = .str (ba t) := by
  obtain ⟨s, rfl, -⟩ := h
  exact ⟨bs s, by rw [ba_bs]⟩
theorem isU8 {M n : Nat} {x : PV} (h : DataOf pvT M (n + 1) 5 x) : ∃ m : Nat, x = .int .u8 (m : Int) ∧ m < 256 := by
  obtain ⟨m, rfl, hm⟩ := h
  have : 0 ≤ m ∧ m ≤ 255 := by simpa [Lit.wf, IntKind.min, IntKind.max, IntKind.signed, IntKind.bits] using hm
  exact ⟨m.toNat, by congr 1; omega, by omega⟩
theorem isBool {M n : Nat} {x : PV} (h : DataOf pvT M (n + 1) 4 x) : ∃ b : Bool, x = .bool b := h
theorem isPairP {M n : Nat} {x : PV} (h : DataOf pvT M (n + 2) 36 x) : ∃ p : Tx × Tx, x = enP p := by
  obtain ⟨ys, rfl, hl, h⟩ := h
  match ys, hl with
  | [a, b], _ =>
    obtain ⟨s, rfl⟩ := isTx (h 0 (0, 9) a rfl rfl)
    obtain ⟨t, rfl⟩ := isTx (h 1 (1, 9) b rfl rfl)
    exact ⟨(s, t), rfl⟩
theorem all_map {α : Type} {f : α → PV} {Q : PV → Prop} (hQ : ∀ y, Q y → ∃ a, y = f a) : ∀ xs : List PV, (∀ y ∈ xs, Q y) → ∃ l : List α, xs = l.map f
  | [], _ => ⟨[], rfl⟩
  | a :: r, h => by
    obtain ⟨l, rfl⟩ := all_map hQ r (fun y hy => h y (by simp [hy]))
    obtain ⟨b, rfl⟩ := hQ a (h a (by simp))
    exact ⟨b :: l, rfl⟩
theorem isPairs {M n : Nat} {x : PV} (h : DataOf pvT M (n + 3) 32 x) : ∃ l : List (Tx × Tx), x = .list 36 (enl l) := by
  obtain ⟨xs, rfl, h, -⟩ := h
  obtain ⟨l, rfl⟩ := all_map (f := enP) (Q := DataOf pvT M (n + 2) 36) (fun y hy => isPairP hy) xs h
  exact ⟨l, rfl⟩
theorem isBat {M n : Nat} {x : PV} (h : DataOf pvT M (n + 4) 34 x) : ∃ b : Bat, x = enB b ∧ b.wh < 256 ∧ b.ke < 256 := by
  obtain ⟨ys, rfl, hl, h⟩ := h
  match ys, hl with
  | [a, b, c, d], _ =>
    obtain ⟨l, rfl⟩ := isPairs (h 0 (0, 32) a rfl rfl)
    obtain ⟨e, rfl⟩ := isBool (h 1 (1, 4) b rfl rfl)
    obtain ⟨m, rfl, hm⟩ := isU8 (h 2 (2, 5) c rfl rfl)
    obtain ⟨k, rfl, hk⟩ := isU8 (h 3 (3, 5) d rfl rfl)
    exact ⟨⟨l, e, m, k⟩, rfl, hm, hk⟩
theorem isBats {M n : Nat} {x : PV} (h : DataOf pvT M (n + 5) 22 x) : ∃ l : List Bat, x = .list 34 (enBs l) ∧ ∀ b ∈ l, b.wh < 256 ∧ b.ke < 256 := by
  obtain ⟨xs, rfl, h, -⟩ := h
  have : ∀ xs : List PV, (∀ y ∈ xs, DataOf pvT M (n + 4) 34 y) → ∃ l : List Bat, xs = enBs l ∧ ∀ b ∈ l, b.wh < 256 ∧ b.ke < 256 := by
    intro xs
    induction xs with
    | nil => exact fun _ => ⟨[], rfl, fun b hb => by cases hb⟩
    | cons a r ih =>
      intro h
      obtain ⟨l, rfl, hl⟩ := ih (fun y hy => h y (by simp [hy]))
      obtain ⟨b, rfl, hb⟩ := isBat (h a (by simp))
      exact ⟨b :: l, rfl, fun c hc => by
        rcases List.mem_cons.1 hc with rfl | hc
        · exact hb
        · exact hl c hc⟩
  obtain ⟨l, rfl, hl⟩ := this xs h
  exact ⟨l, rfl, hl⟩

theorem storeWholly_law (xs : List PV) (h : DatasOf pvT reachBytes 8 [5, 22] xs) : W3 [] xs (fun _ res => res = [.bool true]) := by
  match xs, h with
  | [x, y], h =>
  obtain ⟨h1, h2, _⟩ := h
  obtain ⟨n, rfl, hn⟩ := isU8 h1
  obtain ⟨l, rfl, hl⟩ := isBats h2
  exact B3_law n hn l hl _ rfl
  | [], h => exact h.elim
  | [_], h => exact h.2.elim
  | _ :: _ :: _ :: _, h => exact h.2.2.elim

end Pv
