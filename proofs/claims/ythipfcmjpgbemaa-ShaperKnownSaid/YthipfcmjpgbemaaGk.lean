/- What goes out up to a tick, step by step: plain laws. -/
import Derived.Test.YthipfcmjpgbemaaGj
import Derived.Test.YthipfcmjpgbemaaGc
import Derived.Laws.AppendOwnNone
namespace Go.Proofs.Ythipfcmjpgbemaa
open Go.RowKit

/-- These go out up to t, one by one; what is left. -/
def Runs (t : Nat) : List OutR → Sh → Sh → Prop
  | [], S, S' => S.step t = none ∧ S' = ⟨t, S.ls⟩
  | x :: o, S, S' => ∃ S1, S.step t = some (S1, x) ∧ Runs t o S1 S'

theorem relN_runs {t : Nat} : ∀ (m : Nat) (S : Sh) (o : List OutR), total S.ls < m → ∃ os, (relN m t S o).2 = o ++ os ∧ Runs t os S (relN m t S o).1
  | 0, S, o, h => absurd h (Nat.not_lt_zero _)
  | m + 1, S, o, h => by
    unfold relN
    cases hs : S.step t with
    | none => exact ⟨[], by simp, hs, rfl⟩
    | some r =>
      obtain ⟨S1, x⟩ := r
      obtain ⟨L, l, -, -, -, -, -, -, -, ht⟩ := step_some hs
      obtain ⟨os, h1, h2⟩ := relN_runs m S1 (o ++ [x]) (by omega)
      exact ⟨x :: os, by rw [h1]; simp, S1, hs, h2⟩
theorem runs_det {t : Nat} : ∀ {o o' : List OutR} {S S1 S2 : Sh}, Runs t o S S1 → Runs t o' S S2 → o = o' ∧ S1 = S2
  | [], [], S, S1, S2, h, k => ⟨rfl, h.2.trans k.2.symm⟩
  | [], y :: o', S, S1, S2, h, k => by obtain ⟨X, hx, -⟩ := k; rw [h.1] at hx; cases hx
  | x :: o, [], S, S1, S2, h, k => by obtain ⟨X, hx, -⟩ := h; rw [k.1] at hx; cases hx
  | x :: o, y :: o', S, S1, S2, h, k => by
    obtain ⟨X, hx, hr⟩ := h
    obtain ⟨Y, hy, kr⟩ := k
    rw [hx] at hy
    injection hy with hy
    injection hy with e1 e2
    subst e1 e2
    obtain ⟨e3, e4⟩ := runs_det hr kr
    exact ⟨by rw [e3], e4⟩
theorem rel_runs (S : Sh) (t : Nat) : Runs (max t S.tick) (S.rel t).2 S (S.rel t).1 := by
  obtain ⟨os, h1, h2⟩ := relN_runs (t := max t S.tick) (total S.ls + 1) S [] (by omega)
  unfold Sh.rel
  rw [h1]
  exact h2

theorem lnWhen_ge {tick : Nat} {L : Ln} (h : (lnWhen tick L).2 = true) : tick ≤ (lnWhen tick L).1 := by
  unfold lnWhen at *
  split at h
  · cases h
  · exact Nat.le_max_right _ _
theorem lnWhen_tick (t u : Nat) (L : Ln) : (lnWhen t L).2 = (lnWhen u L).2 := by
  unfold lnWhen
  split <;> rfl
/-- A head that is covered late is covered just then at a later tick, too. -/
theorem lnWhen_late {t u : Nat} {L : Ln} (htu : t ≤ u) (h : u < (lnWhen t L).1) : lnWhen u L = lnWhen t L := by
  unfold lnWhen at *
  split at h
  · exact absurd h (Nat.not_lt_zero _)
  · simp only [Prod.mk.injEq, and_true]
    have h : u < max _ t := h
    omega
theorem next_ge {S : Sh} (h : S.next.ok = true) : S.tick ≤ S.next.at' := by
  obtain ⟨c, L, -, -, -, hw, -⟩ := S.found.yes h
  have := lnWhen_ge (tick := S.tick) (L := L) (by rw [hw])
  rw [hw] at this
  exact this
theorem nextL_late {t u : Nat} : ∀ (ls : List Ln) (c : Nat) (f : Fnd), (∀ L ∈ ls, ∀ (f : Fnd) c, lookL u f c L = lookL t f c L) → nextL u c f ls = nextL t c f ls
  | [], c, f, _ => rfl
  | L :: ls, c, f, h => by
    unfold nextL
    rw [h L (List.mem_cons_self ..) f c]
    exact nextL_late ls _ _ (fun M hM => h M (List.mem_cons_of_mem _ hM))
theorem next_late {S : Sh} {u : Nat} (h : S.next.ok = false ∨ u < S.next.at') (hu : S.tick ≤ u) : (Sh.mk u S.ls).next = S.next := by
  refine nextL_late S.ls 0 _ (fun L hL f c => ?_)
  obtain ⟨d, hd⟩ := List.mem_iff_getElem?.1 hL
  have hdl := (List.getElem?_eq_some_iff.1 hd).1
  cases he : (lnWhen S.tick L).2 with
  | false =>
    have h1 : (lnWhen u L).2 = false := by rw [lnWhen_tick u S.tick]; exact he
    unfold lookL
    rw [if_neg (by rw [h1]; simp), if_neg (by rw [he]; simp)]
  | true =>
    have hok : S.next.ok = true := by
      cases hn : S.next.ok
      · have := (S.found.no hn).2 d L hdl hd
        rw [he] at this
        cases this
      · rfl
    obtain ⟨c', M, -, -, -, -, hmin⟩ := S.found.yes hok
    have h2 := (hmin d L hdl hd he).1
    have h3 : u < S.next.at' := by
      rcases h with h | h
      · rw [hok] at h; cases h
      · exact h
    unfold lookL
    rw [lnWhen_late hu (by omega)]
theorem step_late {S : Sh} {u t : Nat} (h : S.step u = none) (hu : S.tick ≤ u) : (Sh.mk u S.ls).step t = S.step t := by
  have hn := next_late (step_none h) hu
  unfold Sh.step
  rw [hn]
theorem step_mono {S S1 : Sh} {u t : Nat} {x : OutR} (h : S.step u = some (S1, x)) (hut : u ≤ t) : S.step t = some (S1, x) := by
  have h1 : ¬ (S.next.ok = false ∨ u < S.next.at') := fun e => by
    unfold Sh.step at h
    rw [if_pos e] at h
    cases h
  have h2 : ¬ (S.next.ok = false ∨ t < S.next.at') := fun e => h1 (e.imp id (fun e => by omega))
  unfold Sh.step at h ⊢
  rw [if_neg h1] at h
  rw [if_neg h2]
  exact h
theorem step_tick {S S1 : Sh} {t : Nat} {x : OutR} (h : S.step t = some (S1, x)) : S1.tick = x.at' ∧ x.at' ≤ t ∧ S.tick ≤ x.at' := by
  obtain ⟨L, l, hok, -, ha, hle, -, -, rfl, -⟩ := step_some h
  have := next_ge hok
  exact ⟨rfl, by omega, by omega⟩

theorem runs_total {t : Nat} : ∀ {o : List OutR} {S S' : Sh}, Runs t o S S' → total S'.ls + o.length = total S.ls
  | [], S, S', h => by obtain ⟨-, rfl⟩ := h; rfl
  | x :: o, S, S', h => by
    obtain ⟨X, hx, hr⟩ := h
    obtain ⟨L, l, -, -, -, -, -, -, -, ht⟩ := step_some hx
    have := runs_total hr
    simp only [List.length_cons]
    omega
theorem rel_total (S : Sh) (t : Nat) : total (S.rel t).1.ls + (S.rel t).2.length = total S.ls := runs_total (rel_runs S t)
theorem total_leN {n : Nat} : ∀ {ls : List Ln}, (∀ L ∈ ls, L.Ok n) → total ls ≤ ls.length * n
  | [], _ => by simp [total]
  | L :: ls, h => by
    have ih := total_leN (n := n) (ls := ls) (fun M hM => h M (List.mem_cons_of_mem _ hM))
    have h1 := (h L (List.mem_cons_self ..)).out
    have e : total (L :: ls) = L.Q.L.length + total ls := by simp [total]
    rw [e, List.length_cons, Nat.add_mul]
    omega
theorem few_total {S : Sh} {n : Nat} (h : S.Ok n) : total S.ls ≤ 8 * n := by
  have h1 := total_leN h.ln
  have h2 := Nat.mul_le_mul_right n h.len
  omega

/-- Up to u, and then up to t. -/
theorem runs_split {u t : Nat} (hut : u ≤ t) : ∀ {o1 o2 : List OutR} {S S1 S2 : Sh}, Runs u o1 S S1 → S.tick ≤ u → Runs t o2 S1 S2 → Runs t (o1 ++ o2) S S2
  | [], [], S, S1, S2, h, hu, k => by
    obtain ⟨hn, rfl⟩ := h
    obtain ⟨kn, rfl⟩ := k
    exact ⟨by rw [← step_late hn hu]; exact kn, rfl⟩
  | [], y :: o2, S, S1, S2, h, hu, k => by
    obtain ⟨hn, rfl⟩ := h
    obtain ⟨X, hx, kr⟩ := k
    exact ⟨X, by rw [← step_late hn hu]; exact hx, kr⟩
  | x :: o1, o2, S, S1, S2, h, hu, k => by
    obtain ⟨X, hx, hr⟩ := h
    have ht := step_tick hx
    exact ⟨X, step_mono hx hut, runs_split hut hr (by omega) k⟩
theorem runs_end {u : Nat} : ∀ {o : List OutR} {S S' : Sh}, Runs u o S S' → S.tick ≤ u → S'.tick = u ∧ (S'.next.ok = true → u < S'.next.at')
  | [], S, S', h, hu => by
    obtain ⟨hn, rfl⟩ := h
    refine ⟨rfl, fun hok => ?_⟩
    have hl := next_late (step_none hn) hu
    rw [hl] at hok ⊢
    rcases step_none hn with e | e
    · rw [e] at hok; cases hok
    · exact e
  | x :: o, S, S', h, hu => by
    obtain ⟨X, hx, hr⟩ := h
    have ht := step_tick hx
    exact runs_end hr (by omega)

/-- Where nothing is covered ahead of T, all goes out at T, the classes rise. -/
theorem runs_now {T : Nat} : ∀ {o : List OutR} {S S' : Sh} {K : Nat}, Runs T o S S' → S.tick ≤ T → (S.next.ok = true → T ≤ S.next.at') →
    (∀ d M, d < K → S.ls[d]? = some M → (lnWhen S.tick M).2 = true → T < (lnWhen S.tick M).1) →
    (∀ x ∈ o, x.at' = T ∧ K ≤ x.cls) ∧ o.Pairwise (fun a b => a.cls ≤ b.cls)
  | [], S, S', K, h, hu, ha, hK => ⟨fun x hx => (by cases hx), List.Pairwise.nil⟩
  | x :: o, S, S', K, h, hu, ha, hK => by
    obtain ⟨S1, hs, hr⟩ := h
    obtain ⟨L, l, hok, hc, hat, hle, hL, hq, hS1, -⟩ := step_some hs
    have h1 := ha hok
    have hxT : x.at' = T := by omega
    obtain ⟨c, M, e1, hcl, hM, hw, hmin⟩ := S.found.yes hok
    have hcx : c = x.cls := by rw [hc] at e1; omega
    subst hcx
    have hKx : K ≤ x.cls := by
      rcases Nat.lt_or_ge x.cls K with e | e
      · have h2 := hK x.cls M e hM (by rw [hw])
        rw [hw] at h2
        have h2 : T < S.next.at' := h2
        omega
      · exact e
    have ht1 : S1.tick = T := by rw [hS1]; exact hxT
    have ih := runs_now (K := x.cls) hr (by omega) (fun h => by have := next_ge h; omega) (fun d N hd hN hNt => by
      rw [hS1] at hN
      have hN : (S.ls.set x.cls (outL L x.at' x.x l))[d]? = some N := hN
      rw [List.getElem?_set_ne (by omega)] at hN
      have hdl := (List.getElem?_eq_some_iff.1 hN).1
      have h3 := (hmin d N hdl hN (by rw [lnWhen_tick S.tick S1.tick]; exact hNt)).2 hd
      have h4 : lnWhen S1.tick N = lnWhen S.tick N := lnWhen_late (by omega) (by omega)
      rw [h4]
      omega)
    refine ⟨fun y hy => ?_, List.Pairwise.cons (fun y hy => (ih.1 y hy).2) ih.2⟩
    rcases List.mem_cons.1 hy with rfl | hy
    · exact ⟨hxT, hKx⟩
    · have := ih.1 y hy
      exact ⟨this.1, by omega⟩

/-- What has gone out ahead of round t, and what is left. -/
def Upto (S : Sh) (t : Nat) (o : List OutR) (S' : Sh) : Prop := (t = 0 ∧ o = [] ∧ S' = S) ∨ (0 < t ∧ Runs (S.tick + (t - 1)) o S S')
theorem Upto.next {S S' : Sh} {t : Nat} {o : List OutR} (h : Upto S t o S') : Upto S (t + 1) (o ++ (S'.rel (S.tick + t)).2) (S'.rel (S.tick + t)).1 ∧
    (∀ x ∈ (S'.rel (S.tick + t)).2, x.at' = S.tick + t) ∧ (S'.rel (S.tick + t)).2.Pairwise (fun a b => a.cls ≤ b.cls) := by
  have hr := rel_runs S' (S.tick + t)
  rcases h with ⟨rfl, rfl, rfl⟩ | ⟨h0, h⟩
  · rw [show max (S'.tick + 0) S'.tick = S'.tick by omega] at hr
    have hn := runs_now (K := 0) hr (by omega) (fun h => next_ge h) (fun d M hd => absurd hd (Nat.not_lt_zero _))
    exact ⟨.inr ⟨by omega, by simpa using hr⟩, fun x hx => (hn.1 x hx).1, hn.2⟩
  · obtain ⟨e, hlt⟩ := runs_end h (by omega)
    rw [show max (S.tick + t) S'.tick = S.tick + t by omega] at hr
    have hn := runs_now (K := 0) hr (by omega) (fun h => by have := hlt h; omega) (fun d M hd => absurd hd (Nat.not_lt_zero _))
    exact ⟨.inr ⟨by omega, runs_split (by omega) h (by omega) hr⟩, fun x hx => (hn.1 x hx).1, hn.2⟩
/-- Tick by tick is as at once. -/
theorem Upto.all {S S' : Sh} {n : Nat} {o : List OutR} (h : Upto S (n + 1) o S') : o = (S.rel (S.tick + n)).2 := by
  rcases h with ⟨h, -⟩ | ⟨-, h⟩
  · omega
  · have hr := rel_runs S (S.tick + n)
    rw [show max (S.tick + n) S.tick = S.tick + n by omega] at hr
    exact (runs_det h hr).1
end Go.Proofs.Ythipfcmjpgbemaa

/- New and Offer in all cases; two shapers side by side. -/
namespace Go.Proofs.Ythipfcmjpgbemaa
open Go.RowKit

/-- May such classes be? -/
def newB (l : List Cl) : Bool := decide (0 < l.length) && decide (l.length ≤ 8) && l.all Cl.may
def NewAny (W : World) (t : Nat) (l : List Cl) (e : Ending) (w : World) : Prop :=
  (newB l = false ∧ e = .returned (.tuple #[.pointer none, .int .i64 2]) ∧ Below W.heap.size W w) ∨
  (newB l = true ∧ ∃ p O v ps, e = .returned (.tuple #[ptr p, .int .i64 0]) ∧ MineS W w p O v ps ⟨t, l.map (newLn · t)⟩)
theorem snew_any {t : Nat} {w : World} {v : Value} {l : List Cl} (hl : Cls w v l) (ht : t < 18446744073709551616) :
    Calls Try.prog 10 #[.int .u64 t, v] w (NewAny w t l) := by
  by_cases h : 0 < l.length ∧ l.length ≤ 8
  · refine (new_walk hl h.1 h.2 ht).mono fun e w' hn => ?_
    have hb : newB l = l.all Cl.may := by
      unfold newB
      rw [decide_eq_true h.1, decide_eq_true h.2]
      rfl
    rcases hn with ⟨h1, h2⟩ | ⟨h1, h2⟩
    · exact .inl ⟨hb.trans h1, h2⟩
    · exact .inr ⟨hb.trans h1, h2⟩
  · obtain ⟨a, c, rfl, -⟩ := hl.sh
    refine (new_len (t := t) (a := a) (n := l.length) (c := c) (by omega)).mono fun e w' hn => .inl ⟨?_, hn⟩
    unfold newB
    rcases Nat.eq_zero_or_pos l.length with h1 | h1
    · rw [decide_eq_false (by omega)]; rfl
    · rw [decide_eq_false (show ¬ l.length ≤ 8 by omega)]; simp
theorem newB_len {l : List Cl} (h : newB l = true) : 0 < l.length ∧ l.length ≤ 8 := by
  simp [newB] at h
  exact ⟨by have := h.1.1; omega, h.1.2⟩

/-- What an Offer answers, and what is behind it. -/
def Sh.offB (S : Sh) (c sz : Int) : Bool := decide (0 ≤ c ∧ c < S.ls.length) && decide (0 ≤ sz ∧ sz ≤ 2048)
def Sh.offC (S : Sh) (c sz : Int) : Int := if S.offB c sz = true then (match S.ls[c.toNat]? with | some L => pushC L.Q sz | none => 2) else 2
def Sh.off (S : Sh) (c sz : Int) (no : Nat) (ds : List Nat) : Sh :=
  if S.offB c sz = true then (match S.ls[c.toNat]? with | some L => ⟨S.tick, S.ls.set c.toNat (offL L no sz ds)⟩ | none => S) else S
theorem offB_some {S : Sh} {c sz : Int} (h : S.offB c sz = true) : ∃ (k : Nat) (L : Ln), c = (k : Int) ∧ S.ls[k]? = some L ∧ 0 ≤ sz ∧ sz ≤ 2048 := by
  simp [Sh.offB] at h
  obtain ⟨⟨h1, h2⟩, h3⟩ := h
  refine ⟨c.toNat, S.ls[c.toNat]'(by omega), by omega, List.getElem?_eq_getElem (by omega), h3.1, h3.2⟩
theorem off_len (S : Sh) (c sz : Int) (no : Nat) (ds : List Nat) : (S.off c sz no ds).ls.length = S.ls.length := by
  unfold Sh.off
  split
  · split
    · exact List.length_set
    · rfl
  · rfl
theorem off_tick (S : Sh) (c sz : Int) (no : Nat) (ds : List Nat) : (S.off c sz no ds).tick = S.tick := by
  unfold Sh.off
  split
  · split <;> rfl
  · rfl
theorem off_ok {S : Sh} {n : Nat} (h : S.Ok n) (c sz : Int) (no : Nat) (ds : List Nat) (hn : n + 1 ≤ 1000000) : (S.off c sz no ds).Ok (n + 1) := by
  cases hb : S.offB c sz with
  | false =>
    unfold Sh.off
    rw [hb]
    exact h.mono (Nat.le_succ n) hn
  | true =>
    obtain ⟨k, L, rfl, hL, h0, h1⟩ := offB_some hb
    unfold Sh.off
    rw [if_pos hb, Int.toNat_natCast, hL]
    exact h.offer hL no ds h0 h1 hn
theorem offer_any (c sz : Int) (no : Nat) (y : Value) (ds : List Nat) {w : World} {p n : Nat} {O : Nat → Nat} {v : Value} {ps : List Nat} {S : Sh} (h : IsS w p O v ps S) (hS : S.Ok n)
    (hy : Holds8 w y ds) (hyr : 0 < ds.length → ∀ k, y.ownBlock = some k → O k = 0) (hd : ds.length ≤ 1000000) :
    Calls Try.prog 11 #[ptr p, .int .i64 c, .agg #[.int .u64 no, .int .i64 sz, y]] w fun e w' => e = .returned (.int .i64 (S.offC c sz)) ∧ ∃ O', IsS w' p O' v ps (S.off c sz no ds) ∧ Grow O O' w w' := by
  cases hb : S.offB c sz with
  | false =>
    have hbad : ¬ (0 ≤ c ∧ c < S.ls.length) ∨ sz < 0 ∨ 2048 < sz := by
      have h2 : ¬ ((0 ≤ c ∧ c < S.ls.length) ∧ (0 ≤ sz ∧ sz ≤ 2048)) := fun e => by
        have h3 : S.offB c sz = true := by
          unfold Sh.offB
          rw [decide_eq_true e.1, decide_eq_true e.2]
          rfl
        rw [hb] at h3
        cases h3
      omega
    obtain ⟨a, m, ey, -⟩ := id hy
    refine (Offer_bad no sz y a _ m ey h hbad).mono fun e w' ⟨he, hB⟩ => ?_
    unfold Sh.offC Sh.off
    rw [hb]
    exact ⟨he, O, h.below hB, Grow.below hB⟩
  | true =>
    obtain ⟨k, L, rfl, hL, h0, h1⟩ := offB_some hb
    unfold Sh.offC Sh.off
    rw [if_pos hb, if_pos hb, Int.toNat_natCast, hL]
    exact Offer_ok no sz y ds h hL (hS.ln L (List.mem_of_getElem? hL)) hS.few h0 h1 hy hyr hd

/-- Two shapers, apart. -/
structure Two (W w : World) (pa : Nat) (Oa : Nat → Nat) (va : Value) (psa : List Nat) (Sa : Sh) (pb : Nat) (Ob : Nat → Nat) (vb : Value) (psb : List Nat) (Sb : Sh) : Prop where
  a : MineS W w pa Oa va psa Sa
  b : MineS W w pb Ob vb psb Sb
  dj : ∀ k, Oa k ≠ 0 → Ob k = 0
section
variable {W w w' : World} {pa : Nat} {Oa : Nat → Nat} {va : Value} {psa : List Nat} {Sa : Sh} {pb : Nat} {Ob : Nat → Nat} {vb : Value} {psb : List Nat} {Sb : Sh}
theorem Two.below (h : Two W w pa Oa va psa Sa pb Ob vb psb Sb) (hB : Below w.heap.size w w') : Two W w' pa Oa va psa Sa pb Ob vb psb Sb := ⟨h.a.below hB, h.b.below hB, h.dj⟩
theorem Two.swap (h : Two W w pa Oa va psa Sa pb Ob vb psb Sb) : Two W w pb Ob vb psb Sb pa Oa va psa Sa :=
  ⟨h.b, h.a, fun k hk => by
    rcases Nat.eq_zero_or_pos (Oa k) with e | e
    · exact e
    · have := h.dj k (by omega); omega⟩
theorem Two.stepA {Oa' : Nat → Nat} {va' : Value} {psa' : List Nat} {Sa' : Sh} (h : Two W w pa Oa va psa Sa pb Ob vb psb Sb) (hI : IsS w' pa Oa' va' psa' Sa') (hG : Grow Oa Oa' w w') : Two W w' pa Oa' va' psa' Sa' pb Ob vb psb Sb := by
  have hA := h.a.step hI hG
  refine ⟨hA, ⟨h.b.is.keep hG.only (fun k hk e => hk (h.dj k e)), h.b.ge, hA.bel⟩, fun k hk => ?_⟩
  rcases hG.new k hk with e | e
  · exact h.dj k e
  · exact h.b.is.zero e
theorem Two.stepB {Ob' : Nat → Nat} {vb' : Value} {psb' : List Nat} {Sb' : Sh} (h : Two W w pa Oa va psa Sa pb Ob vb psb Sb) (hI : IsS w' pb Ob' vb' psb' Sb') (hG : Grow Ob Ob' w w') : Two W w' pa Oa va psa Sa pb Ob' vb' psb' Sb' :=
  (h.swap.stepA hI hG).swap
/-- One that is made beside another. -/
theorem Two.mk' {w1 : World} (h1 : MineS W w1 pa Oa va psa Sa) (h2 : MineS w1 w pb Ob vb psb Sb) : Two W w pa Oa va psa Sa pb Ob vb psb Sb := by
  have hs := h1.bel.size
  refine ⟨h1.below h2.bel, ⟨h2.is, fun k hk => Nat.le_trans hs (h2.ge k hk), h1.bel.trans (h2.bel.mono hs)⟩, fun k hk => ?_⟩
  have := h1.is.lt k hk
  rcases Nat.eq_zero_or_pos (Ob k) with e | e
  · exact e
  · have := h2.ge k (by omega); omega
end
end Go.Proofs.Ythipfcmjpgbemaa

/- A row of what went out, to which rows are appended; an item as the document has it. -/
namespace Go.Proofs.Ythipfcmjpgbemaa
open Go.RowKit

/-- A row of what went out. F: the blocks of the items' bytes. -/
structure GotR (w : World) (F : Nat → Prop) (v : Value) (xs : List Value) (L : List OutR) : Prop where
  row : w.ownsRow 0 40 5 v L.length xs
  cs : ∀ i o, L[i]? = some o → xs[i * 5]? = some (.int .u64 o.at') ∧ xs[i * 5 + 1]? = some (.int .i64 (o.cls : Nat)) ∧ ∃ y, ItAt w F xs (i * 5 + 2) o.x y
  ft : ∀ k, F k → ∃ c, w.heap[k]? = some (.cells c 5 (0, 0))
theorem NewO.got {base : Nat} {w : World} {F : Nat → Prop} {v : Value} {xs : List Value} {L : List OutR} (h : NewO base w F v xs L) : GotR w F v xs L :=
  ⟨own_lower h.row (Nat.zero_le _), h.cs, h.ft⟩
theorem gotR_nil (w : World) : GotR w (fun _ => False) (.slice none 0 0) [] [] :=
  ⟨⟨rfl, .inl ⟨rfl, rfl⟩⟩, fun i x hx => by simp at hx, fun _ h => h.elim⟩
section
variable {w w' : World} {F : Nat → Prop} {v : Value} {xs : List Value} {L : List OutR}
theorem GotR.keep {S : Nat → Prop} (h : GotR w F v xs L) (hO : Only S w w') (hF : ∀ k, F k → ¬ S k) (hv : ∀ k, v.ownBlock = some k → ¬ S k) : GotR w' F v xs L :=
  ⟨own_only h.row hO hv, fun i x hx => let ⟨e1, e2, y, hy⟩ := h.cs i x hx; ⟨e1, e2, y, hy.keep hO hF⟩, fun k hk => let ⟨c, hc⟩ := h.ft k hk; ⟨c, hO.keep hc (hF k hk)⟩⟩
theorem GotR.below (h : GotR w F v xs L) (hB : Below w.heap.size w w') : GotR w' F v xs L := h.keep (Below.only hB (fun _ => False)) (fun _ _ h => h) (fun _ _ h => h)
theorem GotR.len (h : GotR w F v xs L) : xs.length = L.length * 5 := h.row.1
theorem GotR.flt (h : GotR w F v xs L) {k : Nat} (hk : F k) : k < w.heap.size := let ⟨_, hc⟩ := h.ft k hk; lt_of_obj hc
theorem GotR.vlt (h : GotR w F v xs L) {k : Nat} (hk : v.ownBlock = some k) : k < w.heap.size := let ⟨_, hc⟩ := row_type h.row k hk; lt_of_obj hc
theorem GotR.one (h : GotR w F v xs L) : ∀ u ∈ xs, u.oneCell' = true := by
  intro u hu
  obtain ⟨j, hj⟩ := List.mem_iff_getElem?.1 hu
  have hjl := (List.getElem?_eq_some_iff.1 hj).1
  have hl := h.len
  obtain ⟨i, r, hr, rfl⟩ : ∃ i r, r < 5 ∧ j = i * 5 + r := ⟨j / 5, j % 5, Nat.mod_lt _ (by decide), by omega⟩
  have hi : i < L.length := by omega
  obtain ⟨e0, e1, y, hy⟩ := h.cs i L[i] (List.getElem?_eq_getElem hi)
  have e2 := hy.c0
  have e3 := hy.c1
  have e4 := hy.c2
  obtain ⟨ya, yc, ey, -⟩ := hy.d.holds
  match r, hr with
  | 0, _ => rw [show i * 5 + 0 = i * 5 by omega, e0] at hj; injection hj with hj; rw [← hj]; rfl
  | 1, _ => rw [e1] at hj; injection hj with hj; rw [← hj]; rfl
  | 2, _ => rw [e2] at hj; injection hj with hj; rw [← hj]; rfl
  | 3, _ => rw [show i * 5 + 3 = i * 5 + 2 + 1 by omega, e3] at hj; injection hj with hj; rw [← hj]; rfl
  | 4, _ => rw [show i * 5 + 4 = i * 5 + 2 + 2 by omega, e4] at hj; injection hj with hj; rw [← hj, ey]; rfl
/-- Where it lies. -/
theorem GotR.at (h : GotR w F v xs L) (h0 : 0 < L.length) : ∃ g cap, v = .slice (some ⟨g, 0, none⟩) L.length cap ∧ g < w.heap.size ∧ ∀ j u, xs[j]? = some u → w.cell? ⟨g, j, none⟩ = some u := by
  rcases h.row.2 with ⟨_, he⟩ | ⟨g, cap, cur, hv, hg, hh, hnc, hcm, hcs, hx⟩
  · omega
  · refine ⟨g, cap, hv, lt_of_obj hh, fun j u hj => ?_⟩
    refine (cell_of_block hh j).trans ?_
    rw [← hx] at hj
    have hlt : j < L.length * 5 := by
      have := (List.getElem?_eq_some_iff.1 hj).1
      rw [List.length_take] at this
      omega
    rw [List.getElem?_take_of_lt hlt] at hj
    simpa using hj
/-- One's row behind another's. -/
theorem GotR.append {w5 : World} {F2 : Nat → Prop} {v2 v3 : Value} {ys : List Value} {M : List OutR} (h : GotR w F v xs L) (k : GotR w F2 v2 ys M)
    (hOW : w5.ownsRow 0 40 5 v3 (L.length + M.length) (xs ++ ys)) (hG : w.grownBy w5 v.ownBlock) : GotR w5 (fun k => F k ∨ F2 k) v3 (xs ++ ys) (L ++ M) := by
  have hO : Only (fun k => v.ownBlock = some k) w w5 := (Only.refl _ _).grown hG (fun k hk _ => hk)
  have hd : ∀ k c, w.heap[k]? = some (.cells c 5 (0, 0)) → ¬ v.ownBlock = some k := fun k c hc hk => by
    obtain ⟨c', hc'⟩ := row_type h.row k hk
    rw [hc] at hc'
    injection hc' with hc'
    injection hc' with _ e _
    exact absurd e (by decide)
  have hF : ∀ k, F k → ¬ v.ownBlock = some k := fun k hk => let ⟨c, hc⟩ := h.ft k hk; hd k c hc
  have hF2 : ∀ j, F2 j → ¬ v.ownBlock = some j := fun j hj => let ⟨c, hc⟩ := k.ft j hj; hd j c hc
  have hxl := h.len
  refine ⟨by rw [List.length_append]; exact hOW, fun i z hz => ?_, ?_⟩
  · by_cases hi : i < L.length
    · rw [List.getElem?_append_left hi] at hz
      obtain ⟨e1, e2, u, hu⟩ := h.cs i z hz
      have hu' := hu.keep hO hF
      exact ⟨by rw [List.getElem?_append_left (by omega)]; exact e1, by rw [List.getElem?_append_left (by omega)]; exact e2, u, by rw [List.getElem?_append_left (by omega)]; exact hu'.c0, by rw [List.getElem?_append_left (by omega)]; exact hu'.c1, by rw [List.getElem?_append_left (by omega)]; exact hu'.c2, hu'.d, fun k hk => .inl (hu'.f k hk)⟩
    · obtain ⟨j, rfl⟩ : ∃ j, i = L.length + j := ⟨i - L.length, by omega⟩
      rw [List.getElem?_append_right (by omega), show L.length + j - L.length = j by omega] at hz
      obtain ⟨e1, e2, u, hu⟩ := k.cs j z hz
      have hu' := hu.keep hO hF2
      have e3 := hu'.c0
      have e4 := hu'.c1
      have e5 := hu'.c2
      refine ⟨?_, ?_, u, ?_, ?_, ?_, hu'.d, fun k hk => .inr (hu'.f k hk)⟩
      · rw [List.getElem?_append_right (by omega), show (L.length + j) * 5 - xs.length = j * 5 by omega]; exact e1
      · rw [List.getElem?_append_right (by omega), show (L.length + j) * 5 + 1 - xs.length = j * 5 + 1 by omega]; exact e2
      · rw [List.getElem?_append_right (by omega), show (L.length + j) * 5 + 2 - xs.length = j * 5 + 2 by omega]; exact e3
      · rw [List.getElem?_append_right (by omega), show (L.length + j) * 5 + 2 + 1 - xs.length = j * 5 + 2 + 1 by omega]; exact e4
      · rw [List.getElem?_append_right (by omega), show (L.length + j) * 5 + 2 + 2 - xs.length = j * 5 + 2 + 2 by omega]; exact e5
  · rintro j (hj | hj)
    · obtain ⟨c, hc⟩ := h.ft j hj
      exact ⟨c, hO.keep hc (hF j hj)⟩
    · obtain ⟨c, hc⟩ := k.ft j hj
      exact ⟨c, hO.keep hc (hF2 j hj)⟩
end

/-- append(all, one...). -/
theorem wpList_append_got {w : World} {ops : Array Oper} {rest : List Oper} {o : Oper} {a : Act} {Q : Exit → Act → World → Prop} {F F2 : Nat → Prop} {v v2 : Value} {xs ys : List Value} {L M : List OutR} (hgd : o.guard = none) (s x : Operand)
    (ho : o.op = .call { callee := .builtin .append, args := #[s, x], argTypes := #[37, 37] })
    (h : GotR w F v xs L) (k : GotR w F2 v2 ys M) (hs : a.eval s = v) (hx : a.eval x = v2) (hn : L.length + M.length ≤ 1000000)
    (hK : ∀ v3 w', GotR w' (fun k => F k ∨ F2 k) v3 (xs ++ ys) (L ++ M) → Only (fun k => v.ownBlock = some k) w w' → (v3.ownBlock = v.ownBlock ∨ v3.ownBlock = some w.heap.size) → wpList Try.prog ops Q rest (a.put o.dst v3) w') :
    wpList Try.prog ops Q (o :: rest) a w := by
  obtain ⟨i0, hi, hz, hz1, hz2⟩ := info_parts info_out
  rcases k.row.2 with ⟨hv, h0⟩ | ⟨g, cap, cur, hv, hg, hh, hnc, hcm, hcs, hxy⟩
  · subst hv
    have hM : M = [] := List.eq_nil_of_length_eq_zero h0
    have hys : ys = [] := List.eq_nil_of_length_eq_zero (by have := k.len; omega)
    subst hM hys
    refine wpList_append_own_none hgd s x _ ho 0 40 i0 5 Try.underlying37 hi v L.length xs hs h.row hx ?_
    refine hK v w ?_ (Only.refl _ _) (.inl rfl)
    rw [List.append_nil, List.append_nil]
    exact ⟨h.row, fun i z hz => let ⟨e1, e2, u, hu⟩ := h.cs i z hz; ⟨e1, e2, u, hu.c0, hu.c1, hu.c2, hu.d, fun k hk => .inl (hu.f k hk)⟩, fun j hj => hj.elim (h.ft j) (k.ft j)⟩
  · refine wpList_append_row _ hgd s x _ ho 40 i0 _ 5 56 Try.underlying37 hi hz hz1 hz2 rfl (by decide) v L.length xs hs h.row ⟨g, 0, none⟩ M.length cap ys (hx.trans hv) k.len (fun j u hj => ?_) k.one (by unfold maxLen; omega) (by omega) (fun v' w' hO hG hb => ?_)
    · rw [Addr.add_lit, Nat.zero_add]
      refine (cell_of_block hh j).trans ?_
      have hj2 := hj
      rw [← hxy] at hj2
      have hlt : j < M.length * 5 := by
        have := (List.getElem?_eq_some_iff.1 hj).1
        have := k.len
        omega
      rw [List.getElem?_take_of_lt hlt] at hj2
      simpa using hj2
    · exact hK v' w' (h.append k hO hG) ((Only.refl _ _).grown hG (fun k hk _ => hk)) hb

theorem ditem_is (no sz : Int) (y : Value) (d : List Nat) (w : World) (hy : Holds8 w y d) :
    Calls Try.prog 13 #[.agg #[.int .u64 no, .int .i64 sz, y]] w fun e w' => e = .returned (.agg #[.int .u64 no, .int .i64 sz, .string (str8 d)]) ∧ Below w.heap.size w w' := by
  have hA : Below w.heap.size w ((w.alloc (.cells #[.int .u64 no, .int .i64 sz, y] 34)).alloc (.cells #[.int .u64 0, .int .i64 0, .string ⟨#[]⟩] 42)) := ((Below.refl _ _).alloc (Nat.le_refl _) _).alloc (by simp) _
  have hc : ∀ w', Below w.heap.size w w' → (convert 32 9 y).run Try.prog w' = .ok (.string (str8 d)) w' := fun w' hB => conv8 (hy.below hB)
  obtain ⟨ao, cap, rfl, _⟩ := hy
  have h1 := hc _ hA
  clear hc
  generalize d.length = n at *
  generalize str8 d = s at *
  go_enter Try.func13, Try.ntmps13
  go_wp2_with fail
  exact bodyPost_ret (v := .agg #[.int .u64 no, .int .i64 sz, .string s]) (by simp [results, Try.results13, go_sem]) rfl ⟨rfl, ((Below.refl _ _).alloc (Nat.le_refl _) _).alloc (by simp) _⟩
end Go.Proofs.Ythipfcmjpgbemaa
