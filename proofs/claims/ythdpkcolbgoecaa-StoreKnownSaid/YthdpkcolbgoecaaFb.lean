/- The frames sixteenth part: blocks numbered anew. -/
import Derived.Test.YthdpkcolbgoecaaFa

namespace Pv
open Go

theorem ren_pure {x : PV} (h : pureC x) (f : Nat → Nat) : x.ren f = x := by
  cases x <;> first | rfl | simp [pureC] at h
  rename_i cs
  cases cs with
  | nil => rfl
  | cons => simp [pureC] at h

theorem hs_pure {x : PV} (h : pureC x) : x.hs = [] := by
  cases x <;> first | rfl | simp [pureC] at h
  rename_i cs
  cases cs with
  | nil => rfl
  | cons => simp [pureC] at h

theorem rens_eq (f : Nat → Nat) : ∀ l : List PV, PV.rens f l = l.map (PV.ren f)
  | [] => rfl
  | x :: r => by rw [PV.rens, rens_eq f r]; rfl

theorem hss_eq : ∀ l : List PV, PV.hss l = l.flatMap PV.hs
  | [] => rfl
  | x :: r => by rw [PV.hss, hss_eq r]; rfl

theorem map_ren_pure {f : Nat → Nat} : ∀ {l : List PV}, (∀ c ∈ l, pureC c) → l.map (PV.ren f) = l
  | [], _ => rfl
  | c :: r, h => by rw [List.map_cons, ren_pure (h c (by simp)), map_ren_pure (fun x hx => h x (by simp [hx]))]

mutual
theorem flat_ren (f : Nat → Nat) : ∀ x : PV, Shp x → flat (x.ren f) = (flat x).map (PV.ren f)
  | .agg fs, h => by rw [PV.ren, flat, flat]; exact flats_ren f fs h
  | .arr n xs, h => (map_ren_pure h.2).symm
  | .undef, _ | .bool _, _ | .int _ _, _ | .str _, _ | .tup _, _ | .list _ _, _ | .nilsl, _ | .sl _ _ _ _, _ | .sla _ _ _ _ _ _ _, _ | .ptr _ _ _ _, _ | .vptr _ _ _, _ | .nilp, _ | .mapr _, _ | .dmap _ _ _, _ | .nilm, _ | .fn _ _, _ | .nilf, _ => rfl
theorem flats_ren (f : Nat → Nat) : ∀ l : List PV, Shps l → flats (PV.rens f l) = (flats l).map (PV.ren f)
  | [], _ => rfl
  | x :: r, h => by rw [PV.rens, flats, flats, List.map_append, flat_ren f x h.1, flats_ren f r h.2]
end

mutual
theorem fits_ren (f : Nat → Nat) {T : Tab} : ∀ (t : Nat) (x : PV), fits T t (x.ren f) = fits T t x
  | t, .agg fs => by
    rw [PV.ren, fits, fits]
    split
    · exact fitsL_ren f _ fs
    · rfl
  | t, .arr n xs => rfl
  | _, .undef | _, .bool _ | _, .int _ _ | _, .str _ | _, .tup _ | _, .list _ _ | _, .nilsl | _, .sl _ _ _ _ | _, .sla _ _ _ _ _ _ _ | _, .ptr _ _ _ _ | _, .vptr _ _ _ | _, .nilp | _, .mapr _ | _, .dmap _ _ _ | _, .nilm | _, .fn _ _ | _, .nilf => rfl
theorem fitsL_ren (f : Nat → Nat) {T : Tab} : ∀ (ts : List Nat) (l : List PV), fitsL T ts (PV.rens f l) = fitsL T ts l
  | [], [] => rfl
  | [], _ :: _ => rfl
  | _ :: _, [] => rfl
  | t :: ts, x :: r => by rw [PV.rens, fitsL, fitsL, fits_ren f t x, fitsL_ren f ts r]
end

mutual
theorem shp_ren (f : Nat → Nat) : ∀ x : PV, Shp x → Shp (x.ren f)
  | .agg fs, h => shps_ren f fs h
  | .arr n xs, h => h
  | .undef, _ | .bool _, _ | .int _ _, _ | .str _, _ | .tup _, _ | .list _ _, _ | .nilsl, _ | .sl _ _ _ _, _ | .sla _ _ _ _ _ _ _, _ | .ptr _ _ _ _, _ | .vptr _ _ _, _ | .nilp, _ | .mapr _, _ | .dmap _ _ _, _ | .nilm, _ | .fn _ _, _ | .nilf, _ => trivial
theorem shps_ren (f : Nat → Nat) : ∀ l : List PV, Shps l → Shps (PV.rens f l)
  | [], _ => trivial
  | x :: r, h => ⟨shp_ren f x h.1, shps_ren f r h.2⟩
end

theorem cellC_ren (f : Nat → Nat) (x : PV) : cellC (x.ren f) = cellC x := by cases x <;> rfl
theorem isAggV_ren (f : Nat → Nat) (x : PV) : isAggV (x.ren f) = isAggV x := by cases x <;> rfl

mutual
theorem flat_hs : ∀ x : PV, Shp x → ∀ c ∈ flat x, ∀ h ∈ c.hs, h ∈ x.hs
  | .agg fs, hs, c, hc, h, hh => by rw [flat] at hc; rw [PV.hs]; exact flats_hs fs hs c hc h hh
  | .arr n xs, hs, c, hc, h, hh => by rw [flat] at hc; rw [hs_pure (hs.2 c hc)] at hh; simp at hh
  | .undef, _, c, hc, h, hh | .bool _, _, c, hc, h, hh | .int _ _, _, c, hc, h, hh | .str _, _, c, hc, h, hh | .tup _, _, c, hc, h, hh | .list _ _, _, c, hc, h, hh | .nilsl, _, c, hc, h, hh | .sl _ _ _ _, _, c, hc, h, hh
  | .sla _ _ _ _ _ _ _, _, c, hc, h, hh | .ptr _ _ _ _, _, c, hc, h, hh | .vptr _ _ _, _, c, hc, h, hh | .nilp, _, c, hc, h, hh | .mapr _, _, c, hc, h, hh | .dmap _ _ _, _, c, hc, h, hh | .nilm, _, c, hc, h, hh | .fn _ _, _, c, hc, h, hh | .nilf, _, c, hc, h, hh => by
    simp only [flat, List.mem_singleton] at hc; subst hc; exact hh
theorem flats_hs : ∀ l : List PV, Shps l → ∀ c ∈ flats l, ∀ h ∈ c.hs, h ∈ PV.hss l
  | [], _, c, hc, _, _ => by simp [flats] at hc
  | x :: r, hs, c, hc, h, hh => by
    rw [flats, List.mem_append] at hc
    rw [PV.hss, List.mem_append]
    rcases hc with hc | hc
    · exact .inl (flat_hs x hs.1 c hc h hh)
    · exact .inr (flats_hs r hs.2 c hc h hh)
end

section
variable {T : Tab} {w : World} {μ μ' : Nat → Option Nat} {ro : Nat → Prop} {L : Heap} {f : Nat → Nat}

/-- A value whose blocks are numbered anew. -/
theorem Rep.ren {x : PV} {v : Value} (h : Rep T w μ ro x v) : (∀ q ∈ x.hs, μ' (f q) = μ q) → Rep T w μ' ro (x.ren f) v := by
  induction h with
  | undef v => exact fun _ => .undef v
  | bool b => exact fun _ => .bool b
  | int k n => exact fun _ => .int k n
  | str s => exact fun _ => .str s
  | agg x vs h1 h2 h3 h4 h5 ih =>
    intro hm
    have hf := flat_ren f x h2
    refine .agg _ vs (by rw [isAggV_ren]; exact h1) (shp_ren f x h2) (by rw [hf, List.length_map]; exact h3) (fun i c v hc hv => ?_) (fun c hc => ?_)
    · rw [hf, List.getElem?_map, Option.map_eq_some_iff] at hc
      obtain ⟨d, hd, rfl⟩ := hc
      exact ih i d v hd hv (fun q hq => hm q (flat_hs x h2 d (List.mem_of_getElem? hd) q hq))
    · rw [hf, List.mem_map] at hc
      obtain ⟨d, hd, rfl⟩ := hc
      rw [cellC_ren]; exact h5 d hd
  | tup xs vs h1 h2 ih =>
    intro hm
    rw [PV.ren]
    refine .tup _ vs (by rw [rens_eq, List.length_map]; exact h1) (fun i y v hy hv => ?_)
    rw [rens_eq, List.getElem?_map, Option.map_eq_some_iff] at hy
    obtain ⟨d, hd, rfl⟩ := hy
    refine ih i d v hd hv (fun q hq => hm q ?_)
    rw [PV.hs, hss_eq, List.mem_flatMap]
    exact ⟨d, List.mem_of_getElem? hd, hq⟩
  | list ty xs b off cap val h1 h2 h3 h4 h5 ih =>
    intro _
    exact Rep.pure_mu (.list ty xs b off cap val h1 h2 h3 h4 h5) (.inl trivial)
  | listE ty a cap => exact fun _ => .listE ty a cap
  | nilsl => exact fun _ => .nilsl
  | sl h ty i n cap b c t fr h1 h2 h3 h4 => exact fun hm => .sl (f h) ty i n cap b c t fr (by rw [hm h (by simp [PV.hs])]; exact h1) h2 h3 h4
  | slE h ty i a => exact fun _ => .slE (f h) ty i a
  | sla h ty i p et j n cap b h1 h2 => exact fun hm => .sla (f h) ty i p et j n cap b (by rw [hm h (by simp [PV.hs])]; exact h1) h2
  | slaE h ty i p et j a => exact fun _ => .slaE (f h) ty i p et j a
  | ptr h ty i p b h1 => exact fun hm => .ptr (f h) ty i p b (by rw [hm h (by simp [PV.hs])]; exact h1)
  | vptr ty x p b off val h1 h2 h3 h4 ih => exact fun _ => Rep.pure_mu (.vptr ty x p b off val h1 h2 h3 h4) (.inl trivial)
  | nilp => exact fun _ => .nilp
  | mapr h b h1 => exact fun hm => .mapr (f h) b (by rw [hm h (by simp [PV.hs])]; exact h1)
  | dmap kt et en b es clock h1 h2 h3 h4 h5 h6 h7 => exact fun _ => Rep.pure_mu (.dmap kt et en b es clock h1 h2 h3 h4 h5 h6 h7) (.inl trivial)
  | dmapE kt et => exact fun _ => .dmapE kt et
  | nilm => exact fun _ => .nilm
  | fn g cs vs h1 h2 ih =>
    intro hm
    rw [PV.ren]
    refine .fn g _ vs (by rw [rens_eq, List.length_map]; exact h1) (fun i y v hy hv => ?_)
    rw [rens_eq, List.getElem?_map, Option.map_eq_some_iff] at hy
    obtain ⟨d, hd, rfl⟩ := hy
    refine ih i d v hd hv (fun q hq => hm q ?_)
    rw [PV.hs, hss_eq, List.mem_flatMap]
    exact ⟨d, List.mem_of_getElem? hd, hq⟩
  | nilf => exact fun _ => .nilf

theorem BRel.ren {mb : Option Nat} {k : Blk} (h : BRel T w μ ro mb k) (hm : ∀ q ∈ k.hs, μ' (f q) = μ q) : BRel T w μ' ro mb (k.ren f) := by
  cases k with
  | gone => trivial
  | row l ty xs =>
    obtain ⟨h1, h2, h3⟩ := h
    refine ⟨h1, h2, fun b e => ?_⟩
    obtain ⟨h4, c, t, lo, hi, h5, h6, h7, h8⟩ := h3 b e
    refine ⟨h4, c, t, lo, hi, h5, h6, h7, fun k pc hp => ?_⟩
    obtain ⟨v, a, r⟩ := h8 k pc hp
    have hmem := List.mem_of_getElem? hp
    rw [flats_eq, List.mem_flatMap] at hmem
    obtain ⟨y, hy, hcy⟩ := hmem
    exact ⟨v, a, r.pure_mu (.inl ((h1 y hy).2.2 _ hcy))⟩
  | box l ty x =>
    obtain ⟨h1, h2, h2', b, e, h4, c, t, lo, hi, h5, h6, h7, h8⟩ := h
    have hf := flat_ren f x h1
    refine ⟨shp_ren f x h1, by rw [fits_ren]; exact h2, fun c hc => ?_, b, e, h4, c, t, lo, hi, h5, h6, by rw [hf, List.length_map]; exact h7, fun k pc hp => ?_⟩
    · rw [hf, List.mem_map] at hc
      obtain ⟨d, hd, rfl⟩ := hc
      rw [cellC_ren]; exact h2' d hd
    · rw [hf, List.getElem?_map, Option.map_eq_some_iff] at hp
      obtain ⟨d, hd, rfl⟩ := hp
      obtain ⟨v, a, r⟩ := h8 k d hd
      exact ⟨v, a, r.ren (fun q hq => hm q (flat_hs x h1 d (List.mem_of_getElem? hd) q hq))⟩
  | map l kt et en =>
    obtain ⟨h1, b, e, h2, es, clock, h3, h4, h5, h6⟩ := h
    refine ⟨h1, b, e, h2, es, clock, h3, h4, h5, fun i k v x hx he => ?_⟩
    obtain ⟨r1, r2⟩ := h6 i k v x hx he
    obtain ⟨k', v', e1, e2, _, _, e3⟩ := h1 _ (List.mem_of_getElem? hx)
    cases e1
    exact ⟨r1.pure_mu (.inl (isKey_pure e2).1), r2.pure_mu (pureV_cases e3)⟩
  | iter l kt et rest cur =>
    obtain ⟨h1, b, e, h2, mo, since, seen, c0, h3, h4⟩ := h
    refine ⟨h1, b, e, h2, mo, since, seen, c0, h3, ?_⟩
    rcases h4 with h4 | ⟨m, es, clock, a1, a2, a3, a4, a5, a6, a7, a8, a9⟩
    · exact .inl h4
    · refine .inr ⟨m, es, clock, a1, a2, a3, a4, a5, a6, a7, fun i k v x hx he => ?_, fun k v hc => ?_⟩
      · obtain ⟨r1, r2⟩ := a8 i k v x hx he
        obtain ⟨k', v', e1, e2, _, _, e3⟩ := h1 _ (List.mem_of_getElem? hx)
        cases e1
        exact ⟨r1.pure_mu (.inl (isKey_pure e2).1), r2.pure_mu (pureV_cases e3)⟩
      · obtain ⟨p1, p2, x, hx, s, b1, b2, b3⟩ := a9 k v hc
        exact ⟨p1, p2, x, hx, s, b1, b2.pure_mu (.inl p1), b3.pure_mu (pureV_cases p2)⟩

theorem live_ren (k : Blk) : (k.ren f).live = k.live := by cases k <;> rfl

theorem addNew_spec : ∀ (l acc : List Nat), acc.Nodup → (addNew acc l).Nodup ∧ ∃ r, addNew acc l = acc ++ r
  | [], acc, h => ⟨h, [], by simp [addNew]⟩
  | x :: l, acc, h => by
    simp only [addNew]
    cases e : acc.contains x with
    | true => exact addNew_spec l acc h
    | false =>
      have hx : x ∉ acc := by simpa using e
      obtain ⟨h1, r, h2⟩ := addNew_spec l (acc ++ [x]) (by
        rw [List.nodup_append]
        refine ⟨h, by simp, fun a ha b hb => ?_⟩
        simp at hb; subst hb
        rintro rfl; exact hx ha)
      exact ⟨h1, x :: r, by simp [h2]⟩

theorem reach_spec (L : Heap) : ∀ (fuel k : Nat) (acc : List Nat), acc.Nodup → (reach L fuel k acc).Nodup ∧ ∃ r, reach L fuel k acc = acc ++ r
  | 0, _, acc, h => ⟨h, [], by simp [reach]⟩
  | fuel + 1, k, acc, h => by
    simp only [reach]
    split
    · rename_i q hq
      obtain ⟨h1, r1, h2⟩ := addNew_spec (L q).hs acc h
      obtain ⟨h3, r2, h4⟩ := reach_spec L fuel (k + 1) _ h1
      exact ⟨h3, r1 ++ r2, by rw [h4, h2, List.append_assoc]⟩
    · exact ⟨h, [], by simp⟩

theorem idx_get {R : List Nat} {h : Nat} (hm : h ∈ R) : R[idx R h]? = some h := by
  have := List.idxOf_lt_length_of_mem hm
  unfold idx
  rw [List.getElem?_eq_getElem this]
  congr 1
  exact List.getElem_idxOf this

theorem idx_inj {R : List Nat} {i h : Nat} (hn : R.Nodup) (hi : R[i]? = some h) : idx R h = i := by
  have hlt := (List.getElem?_eq_some_iff.1 hi).1
  have hm := List.mem_of_getElem? hi
  have h2 := idx_get hm
  have hlt2 := (List.getElem?_eq_some_iff.1 h2).1
  exact (List.getElem?_inj hlt2 hn).1 (h2.trans hi.symm)

/-- The new numbers places. -/
def muOf (R : List Nat) (μ : Nat → Option Nat) : Nat → Option Nat := fun k => (R[k]?).bind μ

theorem muOf_idx {R : List Nat} {h : Nat} (hm : h ∈ R) : muOf R μ (idx R h) = μ h := by
  unfold muOf; rw [idx_get hm]; rfl

theorem closed_spec {R : List Nat} {xs : List PV} (h : closedIn R L xs = true) : (∀ x ∈ xs, ∀ q ∈ x.hs, q ∈ R) ∧ ∀ k ∈ R, ∀ q ∈ (L k).hs, q ∈ R := by
  simp only [closedIn, Bool.and_eq_true, List.all_eq_true, List.contains_iff_mem] at h
  refine ⟨fun x hx q hq => h.1 q ?_, h.2⟩
  rw [hss_eq, List.mem_flatMap]
  exact ⟨x, hx, hq⟩

/-- The heap of what is reached, numbered anew. -/
theorem HRel.renum {R : List Nat} {xs : List PV} (hL : HRel T w μ ro L) (hn : R.Nodup) (hc : closedIn R L xs = true) : HRel T w (muOf R μ) ro (hp (R.map fun h => (L h).ren (idx R))) := by
  obtain ⟨-, hc2⟩ := closed_spec hc
  have hget : ∀ k, hp (R.map fun h => (L h).ren (idx R)) k = match R[k]? with | some h => (L h).ren (idx R) | none => .gone := by
    intro k
    unfold hp
    cases e : R[k]? with
    | none => simp [List.getD, e]
    | some h => simp [List.getD, e]
  refine ⟨fun k b hk => ?_, fun k b hl hk => ?_, hL.ro_lt, fun k k' b hl hl' hk hk' => ?_, fun k => ?_⟩
  · unfold muOf at hk
    cases e : R[k]? with
    | none => rw [e] at hk; cases hk
    | some h => rw [e] at hk; exact hL.lt h b hk
  · unfold muOf at hk
    rw [hget] at hl
    cases e : R[k]? with
    | none => rw [e] at hk; cases hk
    | some h => rw [e] at hk hl; simp only [live_ren] at hl; exact hL.apart h b hl hk
  · unfold muOf at hk hk'
    rw [hget] at hl hl'
    cases e : R[k]? with
    | none => rw [e] at hk; cases hk
    | some h =>
      cases e' : R[k']? with
      | none => rw [e'] at hk'; cases hk'
      | some h' =>
        rw [e] at hk hl; rw [e'] at hk' hl'
        simp only [live_ren] at hl hl'
        have := hL.inj h h' b hl hl' hk hk'
        subst this
        exact (List.getElem?_inj (List.getElem?_eq_some_iff.1 e).1 hn).1 (e.trans e'.symm)
  · rw [hget]
    unfold muOf
    cases e : R[k]? with
    | none => trivial
    | some h =>
      have hm := List.mem_of_getElem? e
      exact (hL.blk h).ren (fun q hq => muOf_idx (hc2 h hm q hq))

end
end Pv
