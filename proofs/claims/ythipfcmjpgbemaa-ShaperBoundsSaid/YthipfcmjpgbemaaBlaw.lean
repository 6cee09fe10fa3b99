/- What is taken of a bucket is at most its burst, and its rate for each tick between: plain facts on numbers and lists, over no program. -/
import Derived.Test.YthipfcmjpgbemaaBk
namespace Go.Proofs.Ythipfcmjpgbemaa

/-- At each of the ticks ats so many tokens were taken as tks tells; now it is tick T, and tok tokens are there. -/
structure BFair (r b : Nat) (ats tks : List Nat) (T tok : Nat) : Prop where
  len : ats.length = tks.length
  tle : tok ≤ b
  at_le : ∀ k, k < ats.length → ats.getD k 0 ≤ T
  sum : ∀ k, k < ats.length → (tks.drop k).sum + tok ≤ b + r * (T - ats.getD k 0)

theorem BFair.nil (r b : Nat) : BFair r b [] [] 0 b := ⟨rfl, Nat.le_refl _, by simp, by simp⟩

theorem getD_snoc_lt {l : List Nat} {x k : Nat} (h : k < l.length) : (l ++ [x]).getD k 0 = l.getD k 0 := by
  simp [List.getD, List.getElem?_append_left h]
theorem getD_snoc_eq {l : List Nat} {x k : Nat} (h : k = l.length) : (l ++ [x]).getD k 0 = x := by
  subst h; simp [List.getD]

theorem BFair.step {r b : Nat} {ats tks : List Nat} {T tok : Nat} (h : BFair r b ats tks T tok) {T' n : Nat} (hT : T ≤ T') (hn : n ≤ min b (tok + r * (T' - T))) :
    BFair r b (ats ++ [T']) (tks ++ [n]) T' (min b (tok + r * (T' - T)) - n) := by
  have hmb : min b (tok + r * (T' - T)) ≤ b := Nat.min_le_left _ _
  have hmr : min b (tok + r * (T' - T)) ≤ tok + r * (T' - T) := Nat.min_le_right _ _
  refine ⟨by simp [h.len], by omega, ?_, ?_⟩
  · intro k hk
    simp only [List.length_append, List.length_cons, List.length_nil] at hk
    by_cases hlt : k < ats.length
    · rw [getD_snoc_lt hlt]; have := h.at_le k hlt; omega
    · rw [getD_snoc_eq (by omega)]; exact Nat.le_refl _
  · intro k hk
    simp only [List.length_append, List.length_cons, List.length_nil] at hk
    by_cases hlt : k < ats.length
    · rw [getD_snoc_lt hlt, List.drop_append_of_le_length (by have := h.len; omega), List.sum_append]
      have h1 := h.sum k hlt
      have h2 := h.at_le k hlt
      have e : r * (T' - ats.getD k 0) = r * (T - ats.getD k 0) + r * (T' - T) := by
        rw [← Nat.mul_add]; congr 1; omega
      simp only [List.sum_cons, List.sum_nil]
      omega
    · have hk' : k = ats.length := by omega
      rw [getD_snoc_eq hk', hk', h.len]
      simp
      omega

/-- A bucket at tick T that is looked at later. -/
theorem fill_at {r b T tok T' : Nat} (ht : tok ≤ b) (hT : T ≤ T') : (Bk.mk r b T tok).fill T' = ⟨r, b, T', min b (tok + r * (T' - T))⟩ := by
  by_cases h : T' ≤ T
  · have e : T' = T := by omega
    subst e
    rw [Bk.fill_le (by exact Nat.le_refl _)]
    simp [Nat.min_eq_right ht]
  · rw [Bk.fill_gt h]

/-- The sum from place k on. -/
theorem sum_drop {l : List Nat} {k : Nat} (h : k < l.length) : (l.drop k).sum = l.getD k 0 + (l.drop (k + 1)).sum := by
  rw [List.drop_eq_getElem_cons h, List.sum_cons]
  simp [List.getD, h]
/-- Never there: not at the last tick either. -/
theorem wait_never {B : Bk} (hk : B.Ok) {n : Nat} (h : B.tok < n) (hw : (B.when n).2 = false) : (B.when n).1 = 0 ∧ B.can 18446744073709551615 n = false := by
  have hn : ¬ n ≤ B.tok := by omega
  have ht := hk.tick
  have key : (B.fill 18446744073709551615).tok < n → B.can 18446744073709551615 n = false := fun h => Bk.can_no (by omega)
  have hmin : (B.fill 18446744073709551615).tok ≤ B.tok + B.rate * (18446744073709551615 - B.tick) ∧ (B.fill 18446744073709551615).tok ≤ B.burst := by
    by_cases hle : 18446744073709551615 ≤ B.tick
    · rw [Bk.fill_le hle]; exact ⟨by omega, hk.tok⟩
    · rw [Bk.fill_gt hle]; exact ⟨Nat.min_le_right _ _, Nat.min_le_left _ _⟩
  by_cases hb : B.burst < n ∨ B.rate = 0
  · rw [Bk.when_never hn hb]
    refine ⟨rfl, key ?_⟩
    rcases hb with hb | hb
    · omega
    · rw [hb] at hmin; omega
  · by_cases h2 : B.tick + B.ticks n < 18446744073709551616
    · rw [Bk.when_later hn hb h2] at hw; cases hw
    · rw [Bk.when_past hn hb h2]
      refine ⟨rfl, key ?_⟩
      unfold Bk.ticks at h2
      have hm : B.rate * (18446744073709551615 - B.tick) ≤ B.rate * ((n - B.tok - 1) / B.rate) := Nat.mul_le_mul_left _ (by omega)
      have hd : B.rate * ((n - B.tok - 1) / B.rate) ≤ n - B.tok - 1 := Nat.mul_div_le _ _
      omega

/-- There at a tick behind its own: at that one, and at none before. -/
theorem wait_then {B : Bk} {n : Nat} (h : B.tok < n) (hw : (B.when n).2 = true) :
    B.tick < (B.when n).1 ∧ (B.when n).1 < 18446744073709551616 ∧ B.can ((B.when n).1 - 1) n = false ∧ B.can (B.when n).1 n = true := by
  have hn : ¬ n ≤ B.tok := by omega
  by_cases hb : B.burst < n ∨ B.rate = 0
  · rw [Bk.when_never hn hb] at hw; cases hw
  · by_cases h2 : B.tick + B.ticks n < 18446744073709551616
    · rw [Bk.when_later hn hb h2]
      have hr : 0 < B.rate := by omega
      have hd : B.rate * ((n - B.tok - 1) / B.rate) ≤ n - B.tok - 1 := Nat.mul_div_le _ _
      have hl : n - B.tok - 1 < B.rate * ((n - B.tok - 1) / B.rate) + B.rate := by
        have := Nat.lt_mul_div_succ (n - B.tok - 1) hr
        rw [Nat.mul_add, Nat.mul_one] at this
        exact this
      unfold Bk.ticks at h2 ⊢
      generalize (n - B.tok - 1) / B.rate = q at *
      refine ⟨by show B.tick < B.tick + (q + 1); omega, h2, ?_, ?_⟩
      · show B.can (B.tick + (q + 1) - 1) n = false
        rw [show B.tick + (q + 1) - 1 = B.tick + q by omega]
        refine Bk.can_no ?_
        by_cases hq : B.tick + q ≤ B.tick
        · rw [Bk.fill_le hq]; omega
        · rw [Bk.fill_gt hq]
          show ¬ n ≤ min B.burst (B.tok + B.rate * (B.tick + q - B.tick))
          rw [Nat.add_sub_cancel_left]
          have := Nat.min_le_right B.burst (B.tok + B.rate * q)
          omega
      · show B.can (B.tick + (q + 1)) n = true
        refine Bk.can_yes ?_
        rw [Bk.fill_gt (by omega)]
        show n ≤ min B.burst (B.tok + B.rate * (B.tick + (q + 1) - B.tick))
        rw [Nat.add_sub_cancel_left, Nat.mul_add, Nat.mul_one]
        exact Nat.le_min.2 ⟨by omega, by omega⟩
    · rw [Bk.when_past hn hb h2] at hw; cases hw

/-- At tick 0 nothing is filled. -/
theorem can_zero {B : Bk} (n : Nat) : B.can 0 n = decide (n ≤ B.tok) := by
  unfold Bk.can
  rw [Bk.fill_le (Nat.zero_le _)]
end Go.Proofs.Ythipfcmjpgbemaa
