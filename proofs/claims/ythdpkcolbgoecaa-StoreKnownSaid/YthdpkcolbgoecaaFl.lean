/- The frames sixth part: the operations that read memory, or reckon where something lies, do as is said. -/
import Derived.Test.YthdpkcolbgoecaaFm

namespace Pv
open Go

/-- The cells of an element among the cells of its row. -/
theorem row_cells {T : Tab} (hT : tabSized T = true) {ty : Nat} : ∀ (xs : List PV) (i : Nat) (x : PV), RowOk T ty xs → xs[i]? = some x → ∀ k, k < (T.at ty).size → (flat x)[k]? = (flats xs)[i * (T.at ty).size + k]?
  | [], _, _, _, h => by simp at h
  | y :: r, 0, x, hr, h => fun k hk => by
    simp at h; subst h
    have hy := hr y (by simp)
    have := flat_length hT ty y hy.2.1 hy.1
    rw [flats, List.getElem?_append_left (by omega)]
    congr 1; omega
  | y :: r, i + 1, x, hr, h => fun k hk => by
    simp at h
    have hy := hr y (by simp)
    have := flat_length hT ty y hy.2.1 hy.1
    rw [flats, List.getElem?_append_right (by rw [Nat.add_mul]; omega), row_cells hT r i x (fun z hz => hr z (by simp [hz])) h k hk]
    congr 1
    rw [Nat.add_mul]; omega

theorem flats_row_length {T : Tab} (hT : tabSized T = true) {ty : Nat} : ∀ (xs : List PV), RowOk T ty xs → (flats xs).length = xs.length * (T.at ty).size
  | [], _ => by simp [flats]
  | y :: r, h => by
    have hy := h y (by simp)
    rw [flats, List.length_append, flat_length hT ty y hy.2.1 hy.1, flats_row_length hT r (fun z hz => h z (by simp [hz])), List.length_cons, Nat.add_mul]
    omega

section
variable {P : Program} {T : Tab} {w : World} {μ : Nat → Option Nat} {ro : Nat → Prop} {L : Heap}

/-- A part of a value whose cells lie in memory from a place on. -/
theorem load_part (hF : tabFits P T 0 T = true) (hT : tabSized T = true) {ty t : Nat} {x : PV} {p : List Nat} {K K' : PV → Prop} (hf : fits T ty x = true) (hs : Shp x) (ht : tyAt T ty p = some t)
    (hno : (T.at t).kd.isOther = false) (hK : ∀ y, fits T t y = true → K y → K' y) (h : subK x p K) (b off : Nat) (hc : ∀ c ∈ flat x, cellC c = true)
    (hm : ∀ (k : Nat) c, (flat x)[k]? = some c → ∃ v, w.cell? ⟨b, off + k, none⟩ = some v ∧ Rep T w μ ro c v) :
    ∃ r, (loadVar t ⟨b, off + offAt T ty p, none⟩).run P w = .ok r w ∧ ∃ pv, K' pv ∧ Rep T w μ ro pv r := by
  obtain ⟨y, hKy, hfy, hsy, hle, hcy⟩ := sub_sound hT p ty t x K hf hs ht h
  obtain ⟨i, d, z, hi⟩ := tiOk_of hF t (by intro e; rw [e] at hno; simp [Kd.isOther] at hno)
  have hlx := flat_length hT ty x hf hs
  have hly := flat_length hT t y hfy hsy
  have key : ∀ k, k < (T.at t).size → ∃ c v, (flat y)[k]? = some c ∧ w.cell? ⟨b, off + offAt T ty p + k, none⟩ = some v ∧ Rep T w μ ro c v ∧ c ∈ flat x := by
    intro k hk
    have h1 := hcy k hk
    have h2 : (flat x)[offAt T ty p + k]? = some ((flat x)[offAt T ty p + k]'(by omega)) := List.getElem?_eq_getElem _
    obtain ⟨v, hv, hr⟩ := hm _ _ h2
    exact ⟨_, v, h1.trans h2, by rw [Nat.add_assoc]; exact hv, hr, List.getElem_mem _⟩
  let val : Nat → Value := fun k => (w.cell? ⟨b, off + offAt T ty p + k, none⟩).getD default
  have hval : ∀ k, k < (T.at t).size → w.cell? ⟨b, off + offAt T ty p + k, none⟩ = some (val k) := by
    intro k hk
    obtain ⟨c, v, _, hv, _⟩ := key k hk
    simp only [val, hv, Option.getD_some]
  refine ⟨_, run_loadVar hi hT hno b _ val hval, y, hK y hfy hKy, rep_read hT hfy hsy val ?_ ?_⟩
  · intro c hcm
    obtain ⟨k, hk, rfl⟩ := List.getElem_of_mem hcm
    obtain ⟨c, v, h1, _, _, h4⟩ := key k (by omega)
    rw [List.getElem?_eq_getElem hk] at h1
    cases h1
    exact hc _ h4
  · intro k c hk
    have hlt := (List.getElem?_eq_some_iff.1 hk).1
    obtain ⟨c', v, h1, h2, h3, _⟩ := key k (by omega)
    rw [hk] at h1; cases h1
    have := hval k (by omega)
    rw [h2] at this; cases this
    exact h3

theorem Rep.ptr_inv {h ty i : Nat} {p : List Nat} {v : Value} (hr : Rep T w μ ro (.ptr h ty i p) v) : ∃ b, μ h = some b ∧ v = .pointer (some ⟨b, i * (T.at ty).size + offAt T ty p, none⟩) := by
  cases hr with
  | ptr _ _ _ _ b h1 => exact ⟨b, h1, rfl⟩
  | agg _ _ h1 => simp [isAggV] at h1

theorem Rep.vptr_inv {ty : Nat} {x : PV} {p : List Nat} {v : Value} (hr : Rep T w μ ro (.vptr ty x p) v) : ∃ b off, v = .pointer (some ⟨b, off + offAt T ty p, none⟩) ∧ Shp x ∧ fits T ty x = true ∧ pureV x ∧ ro b ∧
    ∀ (k : Nat) c, (flat x)[k]? = some c → ∃ v, w.cell? ⟨b, off + k, none⟩ = some v ∧ Rep T w μ ro c v := by
  cases hr with
  | vptr _ _ _ b off val h1 h2 h3 h4 => exact ⟨b, off, rfl, h1.1, h1.2.1, h1.2.2, h2, fun k c hc => ⟨_, h3 k (List.getElem?_eq_some_iff.1 hc).1, h4 k c hc⟩⟩
  | agg _ _ h1 => simp [isAggV] at h1

theorem other_of_fits {t : Nat} {y : PV} (h : fits T t y = true) : (T.at t).kd.isOther = false := by
  cases y <;> simp only [fits] at h
  case agg => split at h <;> simp_all [Kd.isOther]
  case arr => split at h <;> simp_all [Kd.isOther]
  all_goals simp_all

theorem sub_fits (hT : tabSized T = true) {p : List Nat} {ty t : Nat} {x : PV} {K : PV → Prop} (hf : fits T ty x = true) (hs : Shp x) (ht : tyAt T ty p = some t) (h : subK x p K) : (T.at t).kd.isOther = false := by
  obtain ⟨y, _, hfy, _⟩ := sub_sound hT p ty t x K hf hs ht h
  exact other_of_fits hfy

theorem evLoad_sound (hF : tabFits P T 0 T = true) (hT : tabSized T = true) {t : Nat} {a : PV} {v : Value} {K : PV → Prop} (h : evLoad T L t a K) (ha : Rep T w μ ro a v) (hL : HRel T w μ ro L) :
    ∃ r, (Instr.loadAt t v).run P w = .ok r w ∧ ∃ pv, K pv ∧ Rep T w μ ro pv r := by
  unfold evLoad at h
  split at h
  · rename_i h' ty i p
    obtain ⟨b, hb, rfl⟩ := ha.ptr_inv
    have hblk := hL.blk h'
    have hrun : ∀ (a : Addr), (Instr.loadAt t (.pointer (some a))).run P w = (loadVar t a).run P w := fun a => by simp [Instr.loadAt, Instr.sureAddr]
    rw [hrun]
    split at h
    · rename_i l ty' xs e
      obtain ⟨hc, hh⟩ := cond_and h
      clear h; have h := hh; clear hh
      simp only [Bool.and_eq_true, Nat.beq_eq, beq_iff_eq] at hc
      obtain ⟨rfl, ht⟩ := hc
      obtain ⟨x, hx, h⟩ := elemAt_some h
      rw [e] at hblk
      obtain ⟨hrow, -, h3⟩ := hblk
      obtain ⟨-, c, tt, lo, hi, hcells, -, hlen, hrep⟩ := h3 b hb
      obtain ⟨hs, hf, hp⟩ := hrow x (List.mem_of_getElem? hx)
      refine load_part hF hT hf hs ht (sub_fits hT hf hs ht h) (fun y _ => decK_same _ _ _ _) h b _ (fun c hc => cellC_of_pureC (hp c hc)) (fun k pc hk => ?_)
      have hlt : k < (T.at ty').size := by rw [← flat_length hT _ _ hf hs]; exact (List.getElem?_eq_some_iff.1 hk).1
      obtain ⟨v, hv, hr⟩ := hrep (i * (T.at ty').size + k) pc (by rw [← row_cells hT xs i x hrow hx k hlt]; exact hk)
      exact ⟨v, by simp only [World.cell?, hcells]; simpa using hv, hr⟩
    · rename_i l ty' x e
      obtain ⟨hc, hh⟩ := cond_and h
      clear h; have h := hh; clear hh
      simp only [Bool.and_eq_true, Nat.beq_eq, beq_iff_eq] at hc
      obtain ⟨⟨rfl, rfl⟩, ht⟩ := hc
      rw [e] at hblk
      obtain ⟨hs, hf, hcc, b', hb', -, c, tt, lo, hi, hcells, -, hlen, hrep⟩ := hblk
      rw [hb] at hb'; cases hb'
      have := load_part (K' := K) hF hT hf hs ht (sub_fits hT hf hs ht h) (fun y _ hk => by
        cases hp : arrPath T ty' p with
        | true => rw [hp] at hk; exact decK_same _ _ _ _ hk
        | false => rw [hp] at hk; exact (cond_and hk).2) h b 0 hcc (fun k pc hk => by
          obtain ⟨v, hv, hr⟩ := hrep k pc hk
          exact ⟨v, by simp only [World.cell?, hcells]; simpa using hv, hr⟩)
      simpa using this
    · exact h.elim
  · rename_i ty x p
    obtain ⟨b, off, rfl, hs, hf, hp, hro, hm⟩ := ha.vptr_inv
    obtain ⟨hc, h⟩ := cond_and h
    simp only [beq_iff_eq] at hc
    have hrun : ∀ (a : Addr), (Instr.loadAt t (.pointer (some a))).run P w = (loadVar t a).run P w := fun a => by simp [Instr.loadAt, Instr.sureAddr]
    rw [hrun]
    exact load_part hF hT hf hs hc (sub_fits hT hf hs hc h) (fun y _ => decK_same _ _ _ _) h b off (fun c hc => cellC_of_pureC (hp c hc)) hm
  · exact h.elim


theorem Rep.sl_inv {h ty i n : Nat} {v : Value} (hr : Rep T w μ ro (.sl h ty i n) v) : (n = 0 ∧ ∃ a, v = .slice a 0 0) ∨ ∃ b cap c t fr, μ h = some b ∧ n ≤ cap ∧ w.heap[b]? = some (.cells c t fr) ∧ (i + cap) * (T.at ty).size ≤ c.size ∧ v = .slice (some ⟨b, i * (T.at ty).size, none⟩) n cap := by
  cases hr with
  | sl _ _ _ _ cap b c t fr h1 h2 h3 h4 => exact .inr ⟨b, cap, c, t, fr, h1, h2, h3, h4, rfl⟩
  | slE _ _ _ a => exact .inl ⟨rfl, a, rfl⟩
  | agg _ _ h1 => simp [isAggV] at h1

theorem Rep.sla_inv {h ty i : Nat} {p : List Nat} {et j n : Nat} {v : Value} (hr : Rep T w μ ro (.sla h ty i p et j n) v) : (n = 0 ∧ ∃ a, v = .slice a 0 0) ∨ ∃ b cap, μ h = some b ∧ n ≤ cap ∧ v = .slice (some ⟨b, i * (T.at ty).size + offAt T ty p + j * (T.at et).size, none⟩) n cap := by
  cases hr with
  | sla _ _ _ _ _ _ _ cap b h1 h2 => exact .inr ⟨b, cap, h1, h2, rfl⟩
  | slaE _ _ _ _ _ _ a => exact .inl ⟨rfl, a, rfl⟩
  | agg _ _ h1 => simp [isAggV] at h1

theorem rowPart_get {xs : List PV} {i n : Nat} (h : i + n ≤ xs.length) (k : Nat) (hk : k < n) : (rowPart xs i n)[k]? = xs[i + k]? := by
  unfold rowPart
  cases e : Nat.beq i 0 with
  | true => have : i = 0 := by simpa using e
            subst this; simp [hk]
  | false => simp [hk]

theorem rowPart_length {xs : List PV} {i n : Nat} (h : i + n ≤ xs.length) : (rowPart xs i n).length = n := by
  unfold rowPart
  cases e : Nat.beq i 0 with
  | true => have : i = 0 := by simpa using e
            subst this; simp; omega
  | false => simp; omega

theorem rowPart_mem {xs : List PV} {i n : Nat} {x : PV} (h : x ∈ rowPart xs i n) : x ∈ xs := by
  unfold rowPart at h
  cases e : Nat.beq i 0 with
  | true => rw [e] at h; exact List.mem_of_mem_take h
  | false => rw [e] at h; exact List.mem_of_mem_drop (List.mem_of_mem_take h)

theorem rowPart_flats (hT : tabSized T = true) {ty : Nat} {xs : List PV} (hr : RowOk T ty xs) {i n : Nat} (h : i + n ≤ xs.length) (k : Nat) (hk : k < n * (T.at ty).size) :
    (flats (rowPart xs i n))[k]? = (flats xs)[i * (T.at ty).size + k]? := by
  have hpos : 0 < (T.at ty).size := by rcases Nat.eq_zero_or_pos (T.at ty).size with e | e; · rw [e] at hk; simp at hk
                                       · exact e
  have hq : k / (T.at ty).size < n := (Nat.div_lt_iff_lt_mul hpos).2 hk
  have hmod : k % (T.at ty).size < (T.at ty).size := Nat.mod_lt _ hpos
  have hx : i + k / (T.at ty).size < xs.length := by omega
  have e1 := row_cells hT xs (i + k / (T.at ty).size) _ hr (List.getElem?_eq_getElem hx) (k % (T.at ty).size) hmod
  have hrp : RowOk T ty (rowPart xs i n) := fun y hy => hr y (rowPart_mem hy)
  have e2 := row_cells hT (rowPart xs i n) (k / (T.at ty).size) xs[i + k / (T.at ty).size] hrp (by rw [rowPart_get h _ hq, List.getElem?_eq_getElem hx]) (k % (T.at ty).size) hmod
  rw [show k / (T.at ty).size * (T.at ty).size + k % (T.at ty).size = k from Nat.div_add_mod' _ _] at e2
  rw [← e2, e1]
  congr 1
  rw [Nat.add_mul, Nat.add_assoc, Nat.div_add_mod']

/-- What a slice shows lies in memory. -/
structure Shows (T : Tab) (w : World) (μ : Nat → Option Nat) (ro : Nat → Prop) (e : Nat) (v : Value) (ys : List PV) : Prop where
  row : RowOk T e ys
  val : ∃ a cap, v = .slice a ys.length cap ∧ ys.length ≤ cap ∧ (ys ≠ [] → ∃ b off, a = some ⟨b, off, none⟩ ∧ ∀ (k : Nat) c, (flats ys)[k]? = some c → ∃ v, w.cell? ⟨b, off + k, none⟩ = some v ∧ Rep T w μ ro c v)

theorem sl_shows (hT : tabSized T = true) {h e i n : Nat} {l : Bool} {xs : List PV} {v : Value} (hx : Rep T w μ ro (.sl h e i n) v) (hL : HRel T w μ ro L) (eL : L h = .row l e xs) (hin : i + n ≤ xs.length) : Shows T w μ ro e v (rowPart xs i n) := by
  have hb := hL.blk h
  rw [eL] at hb
  obtain ⟨hrow, -, h3⟩ := hb
  have hlen := rowPart_length hin
  refine ⟨fun y hy => hrow y (rowPart_mem hy), ?_⟩
  rcases hx.sl_inv with ⟨rfl, a, rfl⟩ | ⟨b, cap, c, t, fr, hmu, hcap, hcells, hsz, rfl⟩
  · exact ⟨a, 0, by rw [hlen], by omega, fun hne => absurd (List.length_eq_zero_iff.1 hlen) hne⟩
  · obtain ⟨-, c', t', lo, hi, hcells', -, hle, hrep⟩ := h3 b hmu
    rw [hcells] at hcells'; cases hcells'
    refine ⟨_, cap, by rw [hlen], by omega, fun _ => ⟨b, _, rfl, fun k pc hk => ?_⟩⟩
    have hlt : k < n * (T.at e).size := by
      have := (List.getElem?_eq_some_iff.1 hk).1
      rw [flats_row_length hT (rowPart xs i n) (fun y hy => hrow y (rowPart_mem hy)), hlen] at this
      exact this
    rw [rowPart_flats hT hrow hin k hlt] at hk
    obtain ⟨v, hv, hr⟩ := hrep _ pc hk
    exact ⟨v, by simp only [World.cell?, hcells]; simpa using hv, hr⟩

theorem list_shows {e : Nat} {xs : List PV} {v : Value} (hx : Rep T w μ ro (.list e xs) v) : Shows T w μ ro e v xs := by
  obtain ⟨a, cap, rfl, hcap, hrow, hne⟩ := hx.list_inv
  refine ⟨hrow, a, cap, rfl, hcap, fun h => ?_⟩
  obtain ⟨b, off, rfl, -, hm⟩ := hne h
  exact ⟨b, off, rfl, hm⟩

theorem nilsl_shows {e : Nat} {v : Value} (hx : Rep T w μ ro .nilsl v) : Shows T w μ ro e v [] := by
  obtain rfl := hx.nilsl_inv
  exact ⟨fun _ h => by simp at h, none, 0, rfl, Nat.le_refl _, fun h => absurd rfl h⟩

theorem rowOk_cells {e : Nat} {cs : List PV} (h1 : (T.at e).kd.isAgg = false) (h2 : (T.at e).kd.isOther = false) (hp : ∀ c ∈ cs, pureC c) : RowOk T e cs := fun c hc => by
  have ha := isAgg_of_pureC (hp c hc)
  refine ⟨by cases c <;> first | trivial | simp [isAggV] at ha, fits_scalar (cellC_of_pureC (hp c hc)) h1 h2, fun d hd => ?_⟩
  rw [flat_scalar ha] at hd
  simp at hd; subst hd
  exact hp d hc

theorem flats_cells : ∀ {cs : List PV}, (∀ c ∈ cs, pureC c) → flats cs = cs
  | [], _ => rfl
  | c :: r, h => by
    rw [flats, flat_scalar (isAgg_of_pureC (h c (by simp))), flats_cells (fun x hx => h x (by simp [hx]))]
    rfl

theorem size_scalar (hT : tabSized T = true) {t : Nat} (h1 : (T.at t).kd.isAgg = false) (h2 : (T.at t).kd.isOther = false) : (T.at t).size = 1 := by
  have hz := at_sized hT t
  unfold sizeOk at hz
  split at hz <;> simp_all [Kd.isAgg, Kd.isOther]

theorem showK_sound (hT : tabSized T = true) {e : Nat} {x : PV} {v : Value} {K : List PV → Prop} (h : showK T e L x K) (hx : Rep T w μ ro x v) (hL : HRel T w μ ro L) : ∃ ys, K ys ∧ Shows T w μ ro e v ys := by
  unfold showK at h
  split at h
  · have := cond_and h
    simp only [Nat.beq_eq] at this
    obtain ⟨rfl, hK⟩ := this
    exact ⟨_, hK, list_shows hx⟩
  · exact ⟨_, h, nilsl_shows hx⟩
  · split at h
    · rename_i h' e' i n _ l e'' xs eL
      have := cond_and h
      simp only [Bool.and_eq_true, Nat.beq_eq] at this
      obtain ⟨⟨rfl, rfl⟩, hin, hK⟩ := this
      exact ⟨_, hK, sl_shows hT hx hL eL hin⟩
    · exact h.elim
  · split at h
    · rename_i h' ty i p e' j n _ l ty' x eL
      have := cond_and h
      simp only [Bool.and_eq_true, Nat.beq_eq, Bool.not_eq_true'] at this
      obtain ⟨⟨⟨⟨⟨rfl, rfl⟩, rfl⟩, hna⟩, hno⟩, hs⟩ := this
      have hb := hL.blk h'
      rw [eL] at hb
      obtain ⟨hsx, hfx, hcc, b, hmu, -, c, tt, lo, hi, hcells, -, hlen, hrep⟩ := hb
      have h1 := size_scalar hT hna hno
      have : ∃ cs, K (rowPart cs j n) ∧ j + n ≤ cs.length ∧ (∀ c ∈ cs, pureC c) ∧ ∀ k, k < cs.length → cs[k]? = (flat x)[offAt T ty' p + k]? := by
        obtain ⟨t, ht⟩ := sub_ty p ty' x _ hfx hsx hs
        obtain ⟨y, hK, hfy, hsy, hle, hcy⟩ := sub_sound hT p ty' t x _ hfx hsx ht hs
        have hly := flat_length hT t y hfy hsy
        split at hK
        · rename_i n' cs
          exact ⟨cs, hK.2, hK.1, hsy.2, fun k hk => hcy k (by rw [← hly]; exact hk)⟩
        · exact hK.elim
      obtain ⟨cs, hK, hin, hp, hcs⟩ := this
      have hlen' := rowPart_length hin
      have hrp : ∀ c ∈ rowPart cs j n, pureC c := fun c hc => hp c (rowPart_mem hc)
      refine ⟨_, hK, rowOk_cells hna hno hrp, ?_⟩
      rcases hx.sla_inv with ⟨rfl, a, rfl⟩ | ⟨b', cap, hmu', hcap, rfl⟩
      · exact ⟨a, 0, by rw [hlen'], by omega, fun hne => absurd (List.length_eq_zero_iff.1 hlen') hne⟩
      · rw [hmu] at hmu'; cases hmu'
        refine ⟨_, cap, by rw [hlen'], by omega, fun _ => ⟨b, _, rfl, fun k pc hk => ?_⟩⟩
        rw [flats_cells hrp] at hk
        have hlt : k < n := by have := (List.getElem?_eq_some_iff.1 hk).1; omega
        rw [rowPart_get hin k hlt, hcs _ (by omega)] at hk
        obtain ⟨v, hv, hr⟩ := hrep _ pc hk
        refine ⟨v, ?_, hr⟩
        simp only [World.cell?, hcells, h1]
        have : 0 * (T.at ty').size + offAt T ty' p + j * 1 + k = offAt T ty' p + (j + k) := by omega
        rw [this]
        simpa using hv
    · exact h.elim
  · exact h.elim

end
end Pv
