/- The plain law of a disk: what a crash leaves. Lists alone, over no program. -/
import Derived.Test.YtbgjahgmkbbgjaaCopy8
namespace Go.Proofs.Ytbgjahgmkbbgjaa

/-- Writes done one behind the other, each in so many of its bytes. -/
def cr (am : Nat → List Nat → Nat) : List Nat → List (Nat × List Nat) → Nat → List Nat
  | b, [], _ => b
  | b, (a, d) :: l, i => cr am (laid b a (d.take (am i d))) l (i + 1)

/-- Writes done whole. -/
def nowOf (b : List Nat) (l : List (Nat × List Nat)) : List Nat := l.foldl (fun b w => laid b w.1 w.2) b

/-- They all lie there. -/
def Lie (n : Nat) (l : List (Nat × List Nat)) : Prop := ∀ x ∈ l, x.1 + x.2.length ≤ n

theorem cr_snoc (am : Nat → List Nat → Nat) (a : Nat) (d : List Nat) : ∀ (l : List (Nat × List Nat)) (b : List Nat) (i : Nat), cr am b (l ++ [(a, d)]) i = laid (cr am b l i) a (d.take (am (i + l.length) d))
  | [], b, i => by simp [cr]
  | (a', d') :: l, b, i => by
    simp only [List.cons_append, cr, List.length_cons]
    rw [cr_snoc am a d l, show i + 1 + l.length = i + (l.length + 1) by omega]

theorem laid_len' (b : List Nat) (a : Nat) (d : List Nat) (k : Nat) (h : a + d.length ≤ b.length) : (laid b a (d.take k)).length = b.length :=
  laid_len (by have := List.length_take_le k d; have : (d.take k).length ≤ d.length := by simp; omega
               omega)

theorem cr_len (am : Nat → List Nat → Nat) : ∀ (l : List (Nat × List Nat)) (b : List Nat) (i : Nat), Lie b.length l → (cr am b l i).length = b.length
  | [], _, _, _ => rfl
  | (a, d) :: l, b, i, h => by
    have h1 : a + d.length ≤ b.length := h (a, d) (by simp)
    have h2 := laid_len' b a d (am i d) h1
    rw [cr, cr_len am l _ _ (by rw [h2]; exact fun x hx => h x (by simp [hx])), h2]

theorem cr_all (am : Nat → List Nat → Nat) : ∀ (l : List (Nat × List Nat)) (b : List Nat) (i : Nat), (∀ k d, i ≤ k → k < i + l.length → d.length ≤ am k d) → cr am b l i = nowOf b l
  | [], _, _, _ => rfl
  | (a, d) :: l, b, i, h => by
    rw [cr, cr_all am l _ _ (fun k d hk hl => h k d (by omega) (by simp; omega)), List.take_of_length_le (h i d (by omega) (by simp))]
    rfl

theorem laid_nil (b : List Nat) (a : Nat) : laid b a [] = b := by simp [laid]

theorem cr_none (am : Nat → List Nat → Nat) : ∀ (l : List (Nat × List Nat)) (b : List Nat) (i : Nat), (∀ k d, am k d = 0) → cr am b l i = b
  | [], _, _, _ => rfl
  | (a, d) :: l, b, i, h => by rw [cr, h, List.take_zero, laid_nil, cr_none am l _ _ h]

/-- A byte, behind one write. -/
theorem laid_byte (b : List Nat) (a : Nat) (d : List Nat) (h : a + d.length ≤ b.length) (k : Nat) : (laid b a d)[k]? = b[k]? ∨ (a ≤ k ∧ k < a + d.length ∧ (laid b a d)[k]? = d[k - a]?) := by
  have hl : (b.take a).length = a := by simp; omega
  unfold laid
  by_cases h1 : k < a
  · left
    rw [List.getElem?_append_left (by omega), List.getElem?_take_of_lt h1]
  · rw [List.getElem?_append_right (by omega), hl]
    by_cases h2 : k < a + d.length
    · right
      exact ⟨by omega, h2, by rw [List.getElem?_append_left (by omega)]⟩
    · left
      rw [List.getElem?_append_right (by omega), List.getElem?_drop]
      congr 1
      omega

/-- May a byte be there? what was durable, or what a write had there. -/
def May (b : List Nat) (l : List (Nat × List Nat)) (k : Nat) (x : Option Nat) : Prop := x = b[k]? ∨ ∃ w ∈ l, w.1 ≤ k ∧ k < w.1 + w.2.length ∧ w.2[k - w.1]? = x

theorem cr_may (am : Nat → List Nat → Nat) (k : Nat) (b0 : List Nat) (l0 : List (Nat × List Nat)) : ∀ (l : List (Nat × List Nat)) (b : List Nat) (i : Nat), Lie b.length l → (∀ x ∈ l, x ∈ l0) → May b0 l0 k b[k]? → May b0 l0 k (cr am b l i)[k]?
  | [], _, _, _, _, h => h
  | (a, d) :: l, b, i, hl, hs, h => by
    have h1 : a + d.length ≤ b.length := hl (a, d) (by simp)
    have h2 := laid_len' b a d (am i d) h1
    have h3 : (d.take (am i d)).length ≤ d.length := by simp; omega
    refine cr_may am k b0 l0 l _ _ (by rw [h2]; exact fun x hx => hl x (by simp [hx])) (fun x hx => hs x (by simp [hx])) ?_
    rcases laid_byte b a (d.take (am i d)) (by omega) k with e | ⟨e1, e2, e3⟩
    · rw [e]; exact h
    · right
      refine ⟨(a, d), hs _ (by simp), e1, by simp only; omega, ?_⟩
      rw [e3]
      simp only
      rw [List.getElem?_take_of_lt (by simp at e2; omega)]

/-- How much of a write a fate does. -/
def amount (kind at_ : Int) (n : Nat) : Nat := if kind = 1 then n else if kind = 2 then (min at_ n).toNat else 0
theorem amount_le (k a : Int) (n : Nat) : amount k a n ≤ n := by unfold amount; split <;> (try split) <;> omega
/-- Of a write, by its number, out of fates. -/
def am (fs : List (Int × Int)) (i : Nat) (d : List Nat) : Nat := match fs[i]? with | some (k, a) => amount k a d.length | none => 0
theorem am_le (fs : List (Int × Int)) (i : Nat) (d : List Nat) : am fs i d ≤ d.length := by
  unfold am
  split
  · exact amount_le _ _ _
  · omega
theorem am_nil (k : Nat) (d : List Nat) : am [] k d = 0 := rfl

end Go.Proofs.Ytbgjahgmkbbgjaa
