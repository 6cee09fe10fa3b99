/- What goes out up to a tick, step by step: plain laws. -/
import Derived.Test.YthipfcmjpgbemaaSo
namespace Go.Proofs.Ythipfcmjpgbemaa
open Go.RowKit

/-- These go out up to t, one by one; what is left. -/
def Runs (t : Nat) : List OutR → Sh → Sh → Prop
  | [], S, S' => S.step t = none ∧ S' = ⟨t, S.ls⟩
  | x :: o, S, S' => ∃ S1, S.step t = some (S1, x) ∧ Runs t o S1 S'

theorem relN_runs {t : Nat} : ∀ (m : Nat) (S : Sh) (o : List OutR), total S.ls < m → ∃ os, (relN m t S o).2 = o ++ os ∧ Runs t os S (relN m t S o).1
  | 0, S, o, h => absurd h (Nat.not_lt_zero _)
  | m + 1, S, o, h => by
    unfold relN
    cases hs : S.step t with
    | none => exact ⟨[], by simp, hs, rfl⟩
    | some r =>
      obtain ⟨S1, x⟩ := r
      obtain ⟨L, l, -, -, -, -, -, -, -, ht⟩ := step_some hs
      obtain ⟨os, h1, h2⟩ := relN_runs m S1 (o ++ [x]) (by omega)
      exact ⟨x :: os, by rw [h1]; simp, S1, hs, h2⟩
theorem runs_det {t : Nat} : ∀ {o o' : List OutR} {S S1 S2 : Sh}, Runs t o S S1 → Runs t o' S S2 → o = o' ∧ S1 = S2
  | [], [], S, S1, S2, h, k => ⟨rfl, h.2.trans k.2.symm⟩
  | [], y :: o', S, S1, S2, h, k => by obtain ⟨X, hx, -⟩ := k; rw [h.1] at hx; cases hx
  | x :: o, [], S, S1, S2, h, k => by obtain ⟨X, hx, -⟩ := h; rw [k.1] at hx; cases hx
  | x :: o, y :: o', S, S1, S2, h, k => by
    obtain ⟨X, hx, hr⟩ := h
    obtain ⟨Y, hy, kr⟩ := k
    rw [hx] at hy
    injection hy with hy
    injection hy with e1 e2
    subst e1 e2
    obtain ⟨e3, e4⟩ := runs_det hr kr
    exact ⟨by rw [e3], e4⟩
theorem rel_runs (S : Sh) (t : Nat) : Runs (max t S.tick) (S.rel t).2 S (S.rel t).1 := by
  obtain ⟨os, h1, h2⟩ := relN_runs (t := max t S.tick) (total S.ls + 1) S [] (by omega)
  unfold Sh.rel
  rw [h1]
  exact h2

theorem lnWhen_ge {tick : Nat} {L : Ln} (h : (lnWhen tick L).2 = true) : tick ≤ (lnWhen tick L).1 := by
  unfold lnWhen at *
  split at h
  · cases h
  · exact Nat.le_max_right _ _
theorem lnWhen_tick (t u : Nat) (L : Ln) : (lnWhen t L).2 = (lnWhen u L).2 := by
  unfold lnWhen
  split <;> rfl
/-- A head that is covered late is covered just then at a later tick, too. -/
theorem lnWhen_late {t u : Nat} {L : Ln} (htu : t ≤ u) (h : u < (lnWhen t L).1) : lnWhen u L = lnWhen t L := by
  unfold lnWhen at *
  split at h
  · exact absurd h (Nat.not_lt_zero _)
  · simp only [Prod.mk.injEq, and_true]
    have h : u < max _ t := h
    omega
theorem next_ge {S : Sh} (h : S.next.ok = true) : S.tick ≤ S.next.at' := by
  obtain ⟨c, L, -, -, -, hw, -⟩ := S.found.yes h
  have := lnWhen_ge (tick := S.tick) (L := L) (by rw [hw])
  rw [hw] at this
  exact this
theorem nextL_late {t u : Nat} : ∀ (ls : List Ln) (c : Nat) (f : Fnd), (∀ L ∈ ls, ∀ (f : Fnd) c, lookL u f c L = lookL t f c L) → nextL u c f ls = nextL t c f ls
  | [], c, f, _ => rfl
  | L :: ls, c, f, h => by
    unfold nextL
    rw [h L (List.mem_cons_self ..) f c]
    exact nextL_late ls _ _ (fun M hM => h M (List.mem_cons_of_mem _ hM))
theorem next_late {S : Sh} {u : Nat} (h : S.next.ok = false ∨ u < S.next.at') (hu : S.tick ≤ u) : (Sh.mk u S.ls).next = S.next := by
  refine nextL_late S.ls 0 _ (fun L hL f c => ?_)
  obtain ⟨d, hd⟩ := List.mem_iff_getElem?.1 hL
  have hdl := (List.getElem?_eq_some_iff.1 hd).1
  cases he : (lnWhen S.tick L).2 with
  | false =>
    have h1 : (lnWhen u L).2 = false := by rw [lnWhen_tick u S.tick]; exact he
    unfold lookL
    rw [if_neg (by rw [h1]; simp), if_neg (by rw [he]; simp)]
  | true =>
    have hok : S.next.ok = true := by
      cases hn : S.next.ok
      · have := (S.found.no hn).2 d L hdl hd
        rw [he] at this
        cases this
      · rfl
    obtain ⟨c', M, -, -, -, -, hmin⟩ := S.found.yes hok
    have h2 := (hmin d L hdl hd he).1
    have h3 : u < S.next.at' := by
      rcases h with h | h
      · rw [hok] at h; cases h
      · exact h
    unfold lookL
    rw [lnWhen_late hu (by omega)]
theorem step_late {S : Sh} {u t : Nat} (h : S.step u = none) (hu : S.tick ≤ u) : (Sh.mk u S.ls).step t = S.step t := by
  have hn := next_late (step_none h) hu
  unfold Sh.step
  rw [hn]
theorem step_mono {S S1 : Sh} {u t : Nat} {x : OutR} (h : S.step u = some (S1, x)) (hut : u ≤ t) : S.step t = some (S1, x) := by
  have h1 : ¬ (S.next.ok = false ∨ u < S.next.at') := fun e => by
    unfold Sh.step at h
    rw [if_pos e] at h
    cases h
  have h2 : ¬ (S.next.ok = false ∨ t < S.next.at') := fun e => h1 (e.imp id (fun e => by omega))
  unfold Sh.step at h ⊢
  rw [if_neg h1] at h
  rw [if_neg h2]
  exact h
theorem step_tick {S S1 : Sh} {t : Nat} {x : OutR} (h : S.step t = some (S1, x)) : S1.tick = x.at' ∧ x.at' ≤ t ∧ S.tick ≤ x.at' := by
  obtain ⟨L, l, hok, -, ha, hle, -, -, rfl, -⟩ := step_some h
  have := next_ge hok
  exact ⟨rfl, by omega, by omega⟩

theorem runs_total {t : Nat} : ∀ {o : List OutR} {S S' : Sh}, Runs t o S S' → total S'.ls + o.length = total S.ls
  | [], S, S', h => by obtain ⟨-, rfl⟩ := h; rfl
  | x :: o, S, S', h => by
    obtain ⟨X, hx, hr⟩ := h
    obtain ⟨L, l, -, -, -, -, -, -, -, ht⟩ := step_some hx
    have := runs_total hr
    simp only [List.length_cons]
    omega
theorem rel_total (S : Sh) (t : Nat) : total (S.rel t).1.ls + (S.rel t).2.length = total S.ls := runs_total (rel_runs S t)
theorem total_leN {n : Nat} : ∀ {ls : List Ln}, (∀ L ∈ ls, L.Ok n) → total ls ≤ ls.length * n
  | [], _ => by simp [total]
  | L :: ls, h => by
    have ih := total_leN (n := n) (ls := ls) (fun M hM => h M (List.mem_cons_of_mem _ hM))
    have h1 := (h L (List.mem_cons_self ..)).out
    have e : total (L :: ls) = L.Q.L.length + total ls := by simp [total]
    rw [e, List.length_cons, Nat.add_mul]
    omega
theorem few_total {S : Sh} {n : Nat} (h : S.Ok n) : total S.ls ≤ 8 * n := by
  have h1 := total_leN h.ln
  have h2 := Nat.mul_le_mul_right n h.len
  omega

/-- Up to u, and then up to t. -/
theorem runs_split {u t : Nat} (hut : u ≤ t) : ∀ {o1 o2 : List OutR} {S S1 S2 : Sh}, Runs u o1 S S1 → S.tick ≤ u → Runs t o2 S1 S2 → Runs t (o1 ++ o2) S S2
  | [], [], S, S1, S2, h, hu, k => by
    obtain ⟨hn, rfl⟩ := h
    obtain ⟨kn, rfl⟩ := k
    exact ⟨by rw [← step_late hn hu]; exact kn, rfl⟩
  | [], y :: o2, S, S1, S2, h, hu, k => by
    obtain ⟨hn, rfl⟩ := h
    obtain ⟨X, hx, kr⟩ := k
    exact ⟨X, by rw [← step_late hn hu]; exact hx, kr⟩
  | x :: o1, o2, S, S1, S2, h, hu, k => by
    obtain ⟨X, hx, hr⟩ := h
    have ht := step_tick hx
    exact ⟨X, step_mono hx hut, runs_split hut hr (by omega) k⟩
theorem runs_end {u : Nat} : ∀ {o : List OutR} {S S' : Sh}, Runs u o S S' → S.tick ≤ u → S'.tick = u ∧ (S'.next.ok = true → u < S'.next.at')
  | [], S, S', h, hu => by
    obtain ⟨hn, rfl⟩ := h
    refine ⟨rfl, fun hok => ?_⟩
    have hl := next_late (step_none hn) hu
    rw [hl] at hok ⊢
    rcases step_none hn with e | e
    · rw [e] at hok; cases hok
    · exact e
  | x :: o, S, S', h, hu => by
    obtain ⟨X, hx, hr⟩ := h
    have ht := step_tick hx
    exact runs_end hr (by omega)

/-- Where nothing is covered ahead of T, all goes out at T, the classes rise. -/
theorem runs_now {T : Nat} : ∀ {o : List OutR} {S S' : Sh} {K : Nat}, Runs T o S S' → S.tick ≤ T → (S.next.ok = true → T ≤ S.next.at') →
    (∀ d M, d < K → S.ls[d]? = some M → (lnWhen S.tick M).2 = true → T < (lnWhen S.tick M).1) →
    (∀ x ∈ o, x.at' = T ∧ K ≤ x.cls) ∧ o.Pairwise (fun a b => a.cls ≤ b.cls)
  | [], S, S', K, h, hu, ha, hK => ⟨fun x hx => (by cases hx), List.Pairwise.nil⟩
  | x :: o, S, S', K, h, hu, ha, hK => by
    obtain ⟨S1, hs, hr⟩ := h
    obtain ⟨L, l, hok, hc, hat, hle, hL, hq, hS1, -⟩ := step_some hs
    have h1 := ha hok
    have hxT : x.at' = T := by omega
    obtain ⟨c, M, e1, hcl, hM, hw, hmin⟩ := S.found.yes hok
    have hcx : c = x.cls := by rw [hc] at e1; omega
    subst hcx
    have hKx : K ≤ x.cls := by
      rcases Nat.lt_or_ge x.cls K with e | e
      · have h2 := hK x.cls M e hM (by rw [hw])
        rw [hw] at h2
        have h2 : T < S.next.at' := h2
        omega
      · exact e
    have ht1 : S1.tick = T := by rw [hS1]; exact hxT
    have ih := runs_now (K := x.cls) hr (by omega) (fun h => by have := next_ge h; omega) (fun d N hd hN hNt => by
      rw [hS1] at hN
      have hN : (S.ls.set x.cls (outL L x.at' x.x l))[d]? = some N := hN
      rw [List.getElem?_set_ne (by omega)] at hN
      have hdl := (List.getElem?_eq_some_iff.1 hN).1
      have h3 := (hmin d N hdl hN (by rw [lnWhen_tick S.tick S1.tick]; exact hNt)).2 hd
      have h4 : lnWhen S1.tick N = lnWhen S.tick N := lnWhen_late (by omega) (by omega)
      rw [h4]
      omega)
    refine ⟨fun y hy => ?_, List.Pairwise.cons (fun y hy => (ih.1 y hy).2) ih.2⟩
    rcases List.mem_cons.1 hy with rfl | hy
    · exact ⟨hxT, hKx⟩
    · have := ih.1 y hy
      exact ⟨this.1, by omega⟩

/-- What has gone out ahead of round t, and what is left. -/
def Upto (S : Sh) (t : Nat) (o : List OutR) (S' : Sh) : Prop := (t = 0 ∧ o = [] ∧ S' = S) ∨ (0 < t ∧ Runs (S.tick + (t - 1)) o S S')
theorem Upto.next {S S' : Sh} {t : Nat} {o : List OutR} (h : Upto S t o S') : Upto S (t + 1) (o ++ (S'.rel (S.tick + t)).2) (S'.rel (S.tick + t)).1 ∧
    (∀ x ∈ (S'.rel (S.tick + t)).2, x.at' = S.tick + t) ∧ (S'.rel (S.tick + t)).2.Pairwise (fun a b => a.cls ≤ b.cls) := by
  have hr := rel_runs S' (S.tick + t)
  rcases h with ⟨rfl, rfl, rfl⟩ | ⟨h0, h⟩
  · rw [show max (S'.tick + 0) S'.tick = S'.tick by omega] at hr
    have hn := runs_now (K := 0) hr (by omega) (fun h => next_ge h) (fun d M hd => absurd hd (Nat.not_lt_zero _))
    exact ⟨.inr ⟨by omega, by simpa using hr⟩, fun x hx => (hn.1 x hx).1, hn.2⟩
  · obtain ⟨e, hlt⟩ := runs_end h (by omega)
    rw [show max (S.tick + t) S'.tick = S.tick + t by omega] at hr
    have hn := runs_now (K := 0) hr (by omega) (fun h => by have := hlt h; omega) (fun d M hd => absurd hd (Nat.not_lt_zero _))
    exact ⟨.inr ⟨by omega, runs_split (by omega) h (by omega) hr⟩, fun x hx => (hn.1 x hx).1, hn.2⟩
/-- Tick by tick is as at once. -/
theorem Upto.all {S S' : Sh} {n : Nat} {o : List OutR} (h : Upto S (n + 1) o S') : o = (S.rel (S.tick + n)).2 := by
  rcases h with ⟨h, -⟩ | ⟨-, h⟩
  · omega
  · have hr := rel_runs S (S.tick + n)
    rw [show max (S.tick + n) S.tick = S.tick + n by omega] at hr
    exact (runs_det h hr).1
end Go.Proofs.Ythipfcmjpgbemaa
