/- What is taken of a bucket is at most its burst, and its rate for each tick between: plain facts on numbers and lists, over no program. -/
import Derived.Test.YtkghnapodbodkaaBk
namespace Go.Proofs.Ytkghnapodbodkaa

/-- At each of the ticks ats so many tokens were taken as tks tells; now it is tick T, and tok tokens are there. -/
structure BFair (r b : Nat) (ats tks : List Nat) (T tok : Nat) : Prop where
  len : ats.length = tks.length
  tle : tok ≤ b
  at_le : ∀ k, k < ats.length → ats.getD k 0 ≤ T
  sum : ∀ k, k < ats.length → (tks.drop k).sum + tok ≤ b + r * (T - ats.getD k 0)

theorem BFair.nil (r b : Nat) : BFair r b [] [] 0 b := ⟨rfl, Nat.le_refl _, by simp, by simp⟩

theorem getD_snoc_lt {l : List Nat} {x k : Nat} (h : k < l.length) : (l ++ [x]).getD k 0 = l.getD k 0 := by
  simp [List.getD, List.getElem?_append_left h]
theorem getD_snoc_eq {l : List Nat} {x k : Nat} (h : k = l.length) : (l ++ [x]).getD k 0 = x := by
  subst h; simp [List.getD]

theorem BFair.step {r b : Nat} {ats tks : List Nat} {T tok : Nat} (h : BFair r b ats tks T tok) {T' n : Nat} (hT : T ≤ T') (hn : n ≤ min b (tok + r * (T' - T))) :
    BFair r b (ats ++ [T']) (tks ++ [n]) T' (min b (tok + r * (T' - T)) - n) := by
  have hmb : min b (tok + r * (T' - T)) ≤ b := Nat.min_le_left _ _
  have hmr : min b (tok + r * (T' - T)) ≤ tok + r * (T' - T) := Nat.min_le_right _ _
  refine ⟨by simp [h.len], by omega, ?_, ?_⟩
  · intro k hk
    simp only [List.length_append, List.length_cons, List.length_nil] at hk
    by_cases hlt : k < ats.length
    · rw [getD_snoc_lt hlt]; have := h.at_le k hlt; omega
    · rw [getD_snoc_eq (by omega)]; exact Nat.le_refl _
  · intro k hk
    simp only [List.length_append, List.length_cons, List.length_nil] at hk
    by_cases hlt : k < ats.length
    · rw [getD_snoc_lt hlt, List.drop_append_of_le_length (by have := h.len; omega), List.sum_append]
      have h1 := h.sum k hlt
      have h2 := h.at_le k hlt
      have e : r * (T' - ats.getD k 0) = r * (T - ats.getD k 0) + r * (T' - T) := by
        rw [← Nat.mul_add]; congr 1; omega
      simp only [List.sum_cons, List.sum_nil]
      omega
    · have hk' : k = ats.length := by omega
      rw [getD_snoc_eq hk', hk', h.len]
      simp
      omega

/-- A bucket at tick T that is looked at later. -/
theorem fill_at {r b T tok T' : Nat} (ht : tok ≤ b) (hT : T ≤ T') : (Bk.mk r b T tok).fill T' = ⟨r, b, T', min b (tok + r * (T' - T))⟩ := by
  by_cases h : T' ≤ T
  · have e : T' = T := by omega
    subst e
    rw [Bk.fill_le (by exact Nat.le_refl _)]
    simp [Nat.min_eq_right ht]
  · rw [Bk.fill_gt h]

/-- The sum from place k on. -/
theorem sum_drop {l : List Nat} {k : Nat} (h : k < l.length) : (l.drop k).sum = l.getD k 0 + (l.drop (k + 1)).sum := by
  rw [List.drop_eq_getElem_cons h, List.sum_cons]
  simp [List.getD, h]
end Go.Proofs.Ytkghnapodbodkaa
