/- New and Offer in all cases; two shapers side by side. -/
import Derived.Test.YthipfcmjpgbemaaSr
import Derived.Test.YthipfcmjpgbemaaSt
namespace Go.Proofs.Ythipfcmjpgbemaa
open Go.RowKit

/-- May such classes be? -/
def newB (l : List Cl) : Bool := decide (0 < l.length) && decide (l.length ≤ 8) && l.all Cl.may
def NewAny (W : World) (t : Nat) (l : List Cl) (e : Ending) (w : World) : Prop :=
  (newB l = false ∧ e = .returned (.tuple #[.pointer none, .int .i64 2]) ∧ Below W.heap.size W w) ∨
  (newB l = true ∧ ∃ p O v ps, e = .returned (.tuple #[ptr p, .int .i64 0]) ∧ MineS W w p O v ps ⟨t, l.map (newLn · t)⟩)
theorem snew_any {t : Nat} {w : World} {v : Value} {l : List Cl} (hl : Cls w v l) (ht : t < 18446744073709551616) :
    Calls Try.prog 10 #[.int .u64 t, v] w (NewAny w t l) := by
  by_cases h : 0 < l.length ∧ l.length ≤ 8
  · refine (new_walk hl h.1 h.2 ht).mono fun e w' hn => ?_
    have hb : newB l = l.all Cl.may := by
      unfold newB
      rw [decide_eq_true h.1, decide_eq_true h.2]
      rfl
    rcases hn with ⟨h1, h2⟩ | ⟨h1, h2⟩
    · exact .inl ⟨hb.trans h1, h2⟩
    · exact .inr ⟨hb.trans h1, h2⟩
  · obtain ⟨a, c, rfl, -⟩ := hl.sh
    refine (new_len (t := t) (a := a) (n := l.length) (c := c) (by omega)).mono fun e w' hn => .inl ⟨?_, hn⟩
    unfold newB
    rcases Nat.eq_zero_or_pos l.length with h1 | h1
    · rw [decide_eq_false (by omega)]; rfl
    · rw [decide_eq_false (show ¬ l.length ≤ 8 by omega)]; simp
theorem newB_len {l : List Cl} (h : newB l = true) : 0 < l.length ∧ l.length ≤ 8 := by
  simp [newB] at h
  exact ⟨by have := h.1.1; omega, h.1.2⟩

/-- What an Offer answers, and what is behind it. -/
def Sh.offB (S : Sh) (c sz : Int) : Bool := decide (0 ≤ c ∧ c < S.ls.length) && decide (0 ≤ sz ∧ sz ≤ 2048)
def Sh.offC (S : Sh) (c sz : Int) : Int := if S.offB c sz = true then (match S.ls[c.toNat]? with | some L => pushC L.Q sz | none => 2) else 2
def Sh.off (S : Sh) (c sz : Int) (no : Nat) (ds : List Nat) : Sh :=
  if S.offB c sz = true then (match S.ls[c.toNat]? with | some L => ⟨S.tick, S.ls.set c.toNat (offL L no sz ds)⟩ | none => S) else S
theorem offB_some {S : Sh} {c sz : Int} (h : S.offB c sz = true) : ∃ (k : Nat) (L : Ln), c = (k : Int) ∧ S.ls[k]? = some L ∧ 0 ≤ sz ∧ sz ≤ 2048 := by
  simp [Sh.offB] at h
  obtain ⟨⟨h1, h2⟩, h3⟩ := h
  refine ⟨c.toNat, S.ls[c.toNat]'(by omega), by omega, List.getElem?_eq_getElem (by omega), h3.1, h3.2⟩
theorem off_len (S : Sh) (c sz : Int) (no : Nat) (ds : List Nat) : (S.off c sz no ds).ls.length = S.ls.length := by
  unfold Sh.off
  split
  · split
    · exact List.length_set
    · rfl
  · rfl
theorem off_tick (S : Sh) (c sz : Int) (no : Nat) (ds : List Nat) : (S.off c sz no ds).tick = S.tick := by
  unfold Sh.off
  split
  · split <;> rfl
  · rfl
theorem off_ok {S : Sh} {n : Nat} (h : S.Ok n) (c sz : Int) (no : Nat) (ds : List Nat) (hn : n + 1 ≤ 1000000) : (S.off c sz no ds).Ok (n + 1) := by
  cases hb : S.offB c sz with
  | false =>
    unfold Sh.off
    rw [hb]
    exact h.mono (Nat.le_succ n) hn
  | true =>
    obtain ⟨k, L, rfl, hL, h0, h1⟩ := offB_some hb
    unfold Sh.off
    rw [if_pos hb, Int.toNat_natCast, hL]
    exact h.offer hL no ds h0 h1 hn
theorem offer_any (c sz : Int) (no : Nat) (y : Value) (ds : List Nat) {w : World} {p n : Nat} {O : Nat → Nat} {v : Value} {ps : List Nat} {S : Sh} (h : IsS w p O v ps S) (hS : S.Ok n)
    (hy : Holds8 w y ds) (hyr : 0 < ds.length → ∀ k, y.ownBlock = some k → O k = 0) (hd : ds.length ≤ 1000000) :
    Calls Try.prog 11 #[ptr p, .int .i64 c, .agg #[.int .u64 no, .int .i64 sz, y]] w fun e w' => e = .returned (.int .i64 (S.offC c sz)) ∧ ∃ O', IsS w' p O' v ps (S.off c sz no ds) ∧ Grow O O' w w' := by
  cases hb : S.offB c sz with
  | false =>
    have hbad : ¬ (0 ≤ c ∧ c < S.ls.length) ∨ sz < 0 ∨ 2048 < sz := by
      have h2 : ¬ ((0 ≤ c ∧ c < S.ls.length) ∧ (0 ≤ sz ∧ sz ≤ 2048)) := fun e => by
        have h3 : S.offB c sz = true := by
          unfold Sh.offB
          rw [decide_eq_true e.1, decide_eq_true e.2]
          rfl
        rw [hb] at h3
        cases h3
      omega
    obtain ⟨a, m, ey, -⟩ := id hy
    refine (Offer_bad no sz y a _ m ey h hbad).mono fun e w' ⟨he, hB⟩ => ?_
    unfold Sh.offC Sh.off
    rw [hb]
    exact ⟨he, O, h.below hB, Grow.below hB⟩
  | true =>
    obtain ⟨k, L, rfl, hL, h0, h1⟩ := offB_some hb
    unfold Sh.offC Sh.off
    rw [if_pos hb, if_pos hb, Int.toNat_natCast, hL]
    exact Offer_ok no sz y ds h hL (hS.ln L (List.mem_of_getElem? hL)) hS.few h0 h1 hy hyr hd

/-- Two shapers, apart. -/
structure Two (W w : World) (pa : Nat) (Oa : Nat → Nat) (va : Value) (psa : List Nat) (Sa : Sh) (pb : Nat) (Ob : Nat → Nat) (vb : Value) (psb : List Nat) (Sb : Sh) : Prop where
  a : MineS W w pa Oa va psa Sa
  b : MineS W w pb Ob vb psb Sb
  dj : ∀ k, Oa k ≠ 0 → Ob k = 0
section
variable {W w w' : World} {pa : Nat} {Oa : Nat → Nat} {va : Value} {psa : List Nat} {Sa : Sh} {pb : Nat} {Ob : Nat → Nat} {vb : Value} {psb : List Nat} {Sb : Sh}
theorem Two.below (h : Two W w pa Oa va psa Sa pb Ob vb psb Sb) (hB : Below w.heap.size w w') : Two W w' pa Oa va psa Sa pb Ob vb psb Sb := ⟨h.a.below hB, h.b.below hB, h.dj⟩
theorem Two.swap (h : Two W w pa Oa va psa Sa pb Ob vb psb Sb) : Two W w pb Ob vb psb Sb pa Oa va psa Sa :=
  ⟨h.b, h.a, fun k hk => by
    rcases Nat.eq_zero_or_pos (Oa k) with e | e
    · exact e
    · have := h.dj k (by omega); omega⟩
theorem Two.stepA {Oa' : Nat → Nat} {va' : Value} {psa' : List Nat} {Sa' : Sh} (h : Two W w pa Oa va psa Sa pb Ob vb psb Sb) (hI : IsS w' pa Oa' va' psa' Sa') (hG : Grow Oa Oa' w w') : Two W w' pa Oa' va' psa' Sa' pb Ob vb psb Sb := by
  have hA := h.a.step hI hG
  refine ⟨hA, ⟨h.b.is.keep hG.only (fun k hk e => hk (h.dj k e)), h.b.ge, hA.bel⟩, fun k hk => ?_⟩
  rcases hG.new k hk with e | e
  · exact h.dj k e
  · exact h.b.is.zero e
theorem Two.stepB {Ob' : Nat → Nat} {vb' : Value} {psb' : List Nat} {Sb' : Sh} (h : Two W w pa Oa va psa Sa pb Ob vb psb Sb) (hI : IsS w' pb Ob' vb' psb' Sb') (hG : Grow Ob Ob' w w') : Two W w' pa Oa va psa Sa pb Ob' vb' psb' Sb' :=
  (h.swap.stepA hI hG).swap
/-- One that is made beside another. -/
theorem Two.mk' {w1 : World} (h1 : MineS W w1 pa Oa va psa Sa) (h2 : MineS w1 w pb Ob vb psb Sb) : Two W w pa Oa va psa Sa pb Ob vb psb Sb := by
  have hs := h1.bel.size
  refine ⟨h1.below h2.bel, ⟨h2.is, fun k hk => Nat.le_trans hs (h2.ge k hk), h1.bel.trans (h2.bel.mono hs)⟩, fun k hk => ?_⟩
  have := h1.is.lt k hk
  rcases Nat.eq_zero_or_pos (Ob k) with e | e
  · exact e
  · have := h2.ge k (by omega); omega
end
end Go.Proofs.Ythipfcmjpgbemaa
