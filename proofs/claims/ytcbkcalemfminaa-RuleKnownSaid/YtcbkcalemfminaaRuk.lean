/- The plain law of rules: what covers fits; the dead may go; two side by side may turn. -/
import Derived.Test.YtcbkcalemfminaaRuf
namespace Go.Proofs.Ytcbkcalemfminaa

/-! ### A prefix of a prefix -/
theorem mask_and {p q : Nat} (h : p ≤ q) (hq : q ≤ 8) : ((65280 >>> q) % 256) &&& ((65280 >>> p) % 256) = (65280 >>> p) % 256 := by
  have : ∀ q : Fin 9, ∀ p : Fin 9, p.val ≤ q.val → ((65280 >>> q.val) % 256) &&& ((65280 >>> p.val) % 256) = (65280 >>> p.val) % 256 := by decide
  exact this ⟨q, by omega⟩ ⟨p, by omega⟩ h
theorem mask_sub {n m i : Nat} (h : n ≤ m) : mask m i &&& mask n i = mask n i := mask_and (by omega) (Nat.min_le_right _ _)
theorem cutB_cutB {bs : List Nat} {n m : Nat} (h : n ≤ m) : cutB (cutB bs m 16) n 16 = cutB bs n 16 := by
  unfold cutB
  apply List.map_congr_left
  intro j hj
  have hj16 : j < 16 := List.mem_range.1 hj
  have e : (List.map (fun j => if j < 16 then bs.getD j 0 &&& mask m j else bs.getD j 0) (List.range 16)).getD j 0 = bs.getD j 0 &&& mask m j := by
    have := cutB_get (bs := bs) (n := m) (i := 16) hj16
    unfold cutB at this
    rw [List.getD, this]
    simp [hj16]
  rw [if_pos hj16, if_pos hj16, e, Nat.and_assoc, mask_sub h]
theorem bound_mono {a c : Ad} {n m : Int} (hs : a.six = c.six) (h : n ≤ m) : a.bound n ≤ c.bound m := by
  unfold Ad.bound Ad.size
  rw [hs]
  split <;> omega
theorem bound_bound {a c : Ad} {n m : Int} (hs : a.six = c.six) (h : n ≤ m) (hm : ((a.bound m : Nat) : Int) = m) : a.bound n = c.bound n := by
  unfold Ad.bound Ad.size
  rw [hs]
theorem cut_cut {a : Ad} {n m : Int} (ha : a.right = true) (hc : (a.cut m).a.right = true) (h : n ≤ m) : (a.cut m).a.cut n = a.cut n := by
  have e1 : a.cut m = ⟨⟨a.six, cutB a.bs (a.bound m) 16⟩, a.bound m⟩ := by rw [Ad.cut, if_pos ha]
  have e2 : a.cut n = ⟨⟨a.six, cutB a.bs (a.bound n) 16⟩, a.bound n⟩ := by rw [Ad.cut, if_pos ha]
  rw [Ad.cut, if_pos hc, e1, e2]
  have hb : Ad.bound ⟨a.six, cutB a.bs (a.bound m) 16⟩ n = a.bound n := by unfold Ad.bound Ad.size; rfl
  dsimp only
  rw [hb, cutB_cutB (bound_mono rfl h)]
theorem within_has {p q : Pf} {a : Ad} (h1 : p.within q = true) (h2 : p.has a = true) : q.has a = true := by
  unfold Pf.within at h1
  unfold Pf.has at h2
  simp only [Bool.and_eq_true, decide_eq_true_eq] at h1 h2
  obtain ⟨⟨hp, hl⟩, hq⟩ := h1
  obtain ⟨⟨_, ha⟩, hc⟩ := h2
  unfold Pf.has at hq ⊢
  simp only [Bool.and_eq_true, decide_eq_true_eq] at hq ⊢
  obtain ⟨⟨hqr, hpa⟩, hqc⟩ := hq
  refine ⟨⟨hqr, ha⟩, ?_⟩
  have hl' : q.len ≤ p.len := hl
  have e := cut_cut (m := p.len) (n := q.len) ha (by rw [hc]; exact hpa) hl'
  rw [← e, hc]
  exact hqc

/-! ### What covers fits -/
theorem all6 {p : Nat → Bool} : (!((List.range 6).any fun i => !p i)) = (p 0 && p 1 && p 2 && p 3 && p 4 && p 5) := by
  simp [List.range, List.range.loop, Bool.and_assoc]
theorem prefixed_has {p q : Pf} {a : Ad} (h : prefixedB p q = true) (hq : (q.isNone || q.has a) = true) : (p.isNone || p.has a) = true := by
  unfold prefixedB at h
  cases hp : p.isNone
  · rw [hp] at h
    cases hqn : q.isNone
    · rw [hqn] at h hq
      simp only [Bool.false_or, Bool.not_false, Bool.true_and] at h hq ⊢
      exact within_has h hq
    · rw [hqn] at h
      simp at h
  · rfl
theorem ported_mono {lo hi lo' hi' n : Nat} {k : Ky} (h1 : lo ≤ lo') (h2 : hi' ≤ hi) (h3 : hi ≤ 65535) (h : portedB lo' hi' k n = true) : portedB lo hi k n = true := by
  unfold portedB portHas at *
  simp only [Bool.or_eq_true, Bool.and_eq_true, decide_eq_true_eq] at *
  rcases h with ⟨rfl, rfl⟩ | ⟨ht, ha, hb⟩
  · exact .inl ⟨by omega, by omega⟩
  · exact .inr ⟨ht, by omega, by omega⟩
theorem covers_fits {r s : Ru} {k : Ky} (hr : r.right = true) (hrp : r.shi ≤ 65535 ∧ r.dhi ≤ 65535) (hc : r.covers s = true) (hs : s.fits k = true) : r.fits k = true := by
  unfold Ru.covers at hc
  unfold Ru.fits at hs ⊢
  rw [all6] at hc hs ⊢
  simp only [Bool.and_eq_true] at hc hs ⊢
  obtain ⟨⟨⟨⟨⟨c0, c1⟩, c2⟩, c3⟩, c4⟩, c5⟩ := hc
  obtain ⟨hsr, ⟨⟨⟨⟨⟨s0, s1⟩, s2⟩, s3⟩, s4⟩, s5⟩⟩ := hs
  refine ⟨hr, ⟨⟨⟨⟨⟨?_, ?_⟩, ?_⟩, ?_⟩, ?_⟩, ?_⟩⟩
  · simp only [holdsP, fitsP, Bool.or_eq_true, beq_iff_eq] at *
    omega
  · simp only [holdsP, fitsP, Bool.or_eq_true, beq_iff_eq, decide_eq_true_eq] at *
    omega
  · exact prefixed_has c2 s2
  · exact prefixed_has c3 s3
  · simp only [holdsP, Bool.and_eq_true, decide_eq_true_eq] at c4
    exact ported_mono c4.1 c4.2 hrp.1 s4
  · simp only [holdsP, Bool.and_eq_true, decide_eq_true_eq] at c5
    exact ported_mono c5.1 c5.2 hrp.2 s5

/-! ### The dead may go -/
/-- The rules that are not dead, of the first n. -/
def livesTo (l : List Ru) (ds : List Nat) (n : Nat) : List Ru := (List.range n).filterMap fun i => if ds.contains i then none else l[i]?
theorem livesTo_succ (l : List Ru) (ds : List Nat) (n : Nat) (r : Ru) (h : l[n]? = some r) : livesTo l ds (n + 1) = livesTo l ds n ++ (if ds.contains n then [] else [r]) := by
  unfold livesTo
  rw [List.range_succ, List.filterMap_append]
  congr 1
  by_cases hc : n ∈ ds
  · simp [List.filterMap, hc]
  · simp [List.filterMap, hc, h]
theorem mem_deads {l : List Ru} {i : Nat} (hi : i < l.length) : (deads l).contains i = true ↔ ∃ j r s, j < i ∧ l[j]? = some r ∧ l[i]? = some s ∧ r.covers s = true := by
  unfold deads deadsTo
  rw [List.contains_iff_mem, List.mem_filter]
  constructor
  · rintro ⟨_, h⟩
    obtain ⟨r, hr, hc⟩ := List.any_eq_true.1 h
    obtain ⟨j, hj⟩ := List.mem_iff_getElem?.1 hr
    have hji : j < i := by
      have := (List.getElem?_eq_some_iff.1 hj).1
      rw [List.length_take] at this
      omega
    rw [List.getElem?_take_of_lt hji] at hj
    rw [List.getElem?_eq_getElem hi] at hc
    exact ⟨j, r, l[i], hji, hj, List.getElem?_eq_getElem hi, hc⟩
  · rintro ⟨j, r, s, hji, hj, hs, hc⟩
    refine ⟨List.mem_range.2 hi, List.any_eq_true.2 ⟨r, ?_, ?_⟩⟩
    · exact List.mem_of_getElem? (i := j) (by rw [List.getElem?_take_of_lt hji]; exact hj)
    · rw [hs]
      exact hc
/-- Of the first n: the first that fits is the same, dead or not. -/
theorem find_lives {l : List Ru} {k : Ky} (hl : ∀ r ∈ l, r.right = true ∧ r.shi ≤ 65535 ∧ r.dhi ≤ 65535) : ∀ n, n ≤ l.length → (livesTo l (deads l) n).find? (fun r => r.fits k) = (l.take n).find? (fun r => r.fits k)
  | 0, _ => rfl
  | n + 1, h => by
    have ih := find_lives (k := k) hl n (by omega)
    obtain ⟨r, hr⟩ : ∃ r, l[n]? = some r := ⟨_, List.getElem?_eq_getElem (by omega)⟩
    rw [livesTo_succ l _ n r hr, List.take_add_one, hr, List.find?_append, List.find?_append, ih]
    by_cases hd : (deads l).contains n = true
    · rw [if_pos hd]
      obtain ⟨j, a, s, hj, ha, hs, hc⟩ := (mem_deads (by omega)).1 hd
      rw [hr] at hs
      injection hs with hs
      subst hs
      by_cases hf : r.fits k = true
      · have hfa : a.fits k = true := covers_fits (hl a (List.mem_of_getElem? ha)).1 (hl a (List.mem_of_getElem? ha)).2 hc hf
        have : ((l.take n).find? (fun r => r.fits k)).isSome = true := by
          rw [List.find?_isSome]
          exact ⟨a, List.mem_of_getElem? (i := j) (by rw [List.getElem?_take_of_lt hj]; exact ha), hfa⟩
        obtain ⟨z, hz⟩ := Option.isSome_iff_exists.1 this
        rw [hz]
        rfl
      · simp [hf]
    · rw [if_neg hd]
      rfl
theorem told_lives {l : List Ru} {o : Ru} {k : Ky} (hl : ∀ r ∈ l, r.right = true ∧ r.shi ≤ 65535 ∧ r.dhi ≤ 65535) : told (livesTo l (deads l) l.length) o k = told l o k := by
  unfold told
  rw [find_lives hl l.length (Nat.le_refl _), List.take_length]

/-! ### What asks for nothing fits; what stands behind it is never asked -/
theorem others_fits {deny : Bool} {cls : Int} {k : Ky} (h : (others deny cls).right = true) : (others deny cls).fits k = true := by
  unfold Ru.fits
  rw [all6, h]
  have h2 : (Pf.zero).isNone = true := by unfold Pf.isNone; simp
  simp [fitsP, others, h2, portedB]
theorem told_more {l : List Ru} {deny : Bool} {cls : Int} {k : Ky} (h : (others deny cls).right = true) (z o : Ru) : told (l ++ [others deny cls, z]) o k = told l (others deny cls) k := by
  unfold told
  rw [List.find?_append]
  cases hf : l.find? (fun r => r.fits k) with
  | some r => rfl
  | none => simp [others_fits h]

/-! ### Two side by side -/
theorem find_swap {r s : Ru} {k : Ky} (h : ¬ (r.fits k = true ∧ s.fits k = true)) (a b : List Ru) : (a ++ r :: s :: b).find? (fun r => r.fits k) = (a ++ s :: r :: b).find? (fun r => r.fits k) := by
  rw [List.find?_append, List.find?_append]
  congr 1
  simp only [List.find?_cons]
  cases hr : r.fits k <;> cases hs : s.fits k
  · rfl
  · rfl
  · rfl
  · exact absurd ⟨hr, hs⟩ h
theorem right_cls {r : Ru} (h : r.right = true) : 0 ≤ r.cls ∧ r.cls < 8 := by
  unfold Ru.right at h
  simp only [Bool.and_eq_true, decide_eq_true_eq] at h
  exact ⟨h.1.1.2, h.1.2⟩
theorem others_right0 (d : Bool) : (others d 0).right = true := by cases d <;> decide
theorem told_right {l : List Ru} {o : Ru} {k : Ky} (hl : ∀ r ∈ l, r.right = true) (ho : o.right = true) : (told l o k).right = true := by
  unfold told
  cases hf : l.find? (fun r => r.fits k) with
  | none => exact ho
  | some r => exact hl r (List.mem_of_find?_eq_some hf)
end Go.Proofs.Ytcbkcalemfminaa
