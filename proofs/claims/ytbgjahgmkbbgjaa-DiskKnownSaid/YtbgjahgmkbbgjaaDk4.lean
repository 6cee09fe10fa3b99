/- A write's copy; how much of a write is done: walked. -/
import Derived.Test.YtbgjahgmkbbgjaaDk1
import Derived.Test.YtbgjahgmkbbgjaaCopy8
import Derived.Deep.RegionHeld3
namespace Go.Proofs.Ytbgjahgmkbbgjaa
open Go.RowKit

theorem own_lower {w : World} {base base' : Nat} {e : TypeId} {size : Nat} {v : Value} {n : Nat} {xs : List Value} (h : w.ownsRow base e size v n xs) (hb : base' ≤ base) : w.ownsRow base' e size v n xs := by
  refine ⟨h.1, ?_⟩
  rcases h.2 with hn | ⟨g, cap, cur, hv, hg, rest⟩
  · exact .inl hn
  · exact .inr ⟨g, cap, cur, hv, Nat.le_trans hb hg, rest⟩
theorem own_ge {w : World} {base : Nat} {e : TypeId} {size : Nat} {v : Value} {n : Nat} {xs : List Value} (h : w.ownsRow base e size v n xs) : ∀ k, v.ownBlock = some k → base ≤ k := by
  intro k hk
  rcases h.2 with ⟨hv, _⟩ | ⟨g, cap, cur, hv, hg, _⟩
  · rw [hv] at hk; cases hk
  · rw [hv] at hk; injection hk with hk; subst hk; exact hg

set_option maxRecDepth 100000 in
theorem copied_is (a : Nat) (y : Value) (d : List Nat) (w : World) (hy : Holds8 w y d) (hd : d.length ≤ 1099511627776) :
    Calls Try.prog 27 #[.agg #[.int .i64 a, y]] w fun e w' => ∃ v, e = .returned (.agg #[.int .i64 a, v]) ∧ Own8 w' w.heap.size v d ∧ Below w.heap.size w w' := by
  obtain ⟨ao, cap, hyv, _⟩ := id hy
  go_enter Try.func27, Try.ntmps27
  rw [hyv] at hy ⊢
  clear hyv
  go_wp2_with fail
  have hA : (w.alloc (.cells #[.int .i64 a, .slice ao d.length cap] 46)).heap[w.heap.size]? = some (.cells #[.int .i64 a, .slice ao d.length cap] 46 (0, 0)) := alloc_block_new w _
  have hG1 : ((w.alloc (.cells #[.int .i64 a, .slice ao d.length cap] 46)).alloc (.cells #[.int .i64 0, .slice none 0 0] 46)).heap[w.heap.size]? = some (.cells #[.int .i64 a, .slice ao d.length cap] 46 (0, 0)) := (alloc_block_old _ (by simp)).trans hA
  have hG2 : ((w.alloc (.cells #[.int .i64 a, .slice ao d.length cap] 46)).alloc (.cells #[.int .i64 0, .slice none 0 0] 46)).heap[w.heap.size + 1]? = some (.cells #[.int .i64 0, .slice none 0 0] 46 (0, 0)) := alloc_block_at _ _ (by simp)
  have hBel : Below w.heap.size w ((w.alloc (.cells #[.int .i64 a, .slice ao d.length cap] 46)).alloc (.cells #[.int .i64 0, .slice none 0 0] 46)) := ((Below.refl _ _).alloc (Nat.le_refl _) _).alloc (by simp) _
  clear hA
  generalize (w.alloc (.cells #[.int .i64 a, .slice ao d.length cap] 46)).alloc (.cells #[.int .i64 0, .slice none 0 0] 46) = w2 at *
  have hy2 := hy.below hBel
  obtain ⟨g1, e1⟩ : ∃ g, w.heap.size = g := ⟨_, rfl⟩
  obtain ⟨g2, e2⟩ : ∃ g, w.heap.size + 1 = g := ⟨_, rfl⟩
  have hne : ¬ g1 = g2 := by omega
  have hne' : ¬ g2 = g1 := by omega
  have hle1 : w.heap.size ≤ g1 := by omega
  have hle2 : w.heap.size ≤ g2 := by omega
  rw [e2] at hG2 ⊢
  rw [show (some (⟨w.heap.size, 0, none⟩ : Addr)) = some ⟨g1, 0, none⟩ by rw [e1]]
  rw [e1] at hG1
  clear e1 e2
  have HB := Lib.hid hBel
  have HY := Lib.hid hy2
  clear hy hy2 hBel
  have hl1 := lt_of_obj hG1
  have hl2 := lt_of_obj hG2
  have c0 : w2.cell? ⟨g1, 0, none⟩ = some (.int .i64 a) := cell_of_block hG1 0
  have c1 : w2.cell? ⟨g1, 1, none⟩ = some (.slice ao d.length cap) := cell_of_block hG1 1
  go_region_held3 (fun w' => w'.cell? ⟨g1, 0, none⟩ = some (.int .i64 a) ∧ w'.cell? ⟨g1, 1, none⟩ = some (.slice ao d.length cap)) (go_keep)
    (first
      | (go_at_call 29; refine (clone_any _ d _ (HY.out.below (Below.refl _ _).drew) hd).mono ?_
         rintro e w4 ⟨v, rfl, ho, hB4⟩
         obtain ⟨av, cv, rfl⟩ := ho.shape
         have HO := Lib.hid ho
         have HB4 := Lib.hid hB4
         have hG24 := (hB4.block g2 hl2).trans hG2
         have d0 := (hB4.cell (p := ⟨g1, 0, none⟩) hl1).trans c0
         have d1 := (hB4.cell (p := ⟨g1, 1, none⟩) hl1).trans c1
         have s0 : w4.cell? ⟨g2, 0, none⟩ = some (.int .i64 0) := cell_of_block hG24 0
         have s1 : w4.cell? ⟨g2, 1, none⟩ = some (.slice none 0 0) := cell_of_block hG24 1
         have q0 : w4.frozen? ⟨g2, 0, none⟩ = false := free_of_block hG24 0
         have q1 : w4.frozen? ⟨g2, 1, none⟩ = false := free_of_block hG24 1
         clear ho hB4))
  have hB5 := ((HB.out.drew).trans (HB4.out.mono (by have := HB.out.size; exact this))) 
  have hO5 : Only (· = g2) w4 ((w4.setCell ⟨g2, 0, none⟩ (.int .i64 a)).setCell ⟨g2, 1, none⟩ (.slice av d.length cv)) := Only.setCell (p := ⟨g2, 1, none⟩) (Only.setCell (p := ⟨g2, 0, none⟩) (Only.refl (· = g2) w4) (fun _ => rfl) _) (fun _ => rfl) _
  have hown := own_only HO.out hO5 (fun k hk e => by have := own_ge HO.out k hk; subst e; exact absurd hl2 (Nat.not_lt.2 this))
  have hBf := hB5.trans (hO5.below (B := w.heap.size) hB5.size (fun k hk e => by omega))
  have r0 : ((w4.setCell ⟨g2, 0, none⟩ (.int .i64 a)).setCell ⟨g2, 1, none⟩ (.slice av d.length cv)).cell? ⟨g2, 0, none⟩ = some (.int .i64 a) := by simp [go_sem, s0, s1]
  have r1 : ((w4.setCell ⟨g2, 0, none⟩ (.int .i64 a)).setCell ⟨g2, 1, none⟩ (.slice av d.length cv)).cell? ⟨g2, 1, none⟩ = some (.slice av d.length cv) := by simp [go_sem, s0, s1]
  have hle : w.heap.size ≤ w2.heap.size := HB.out.size
  generalize (w4.setCell ⟨g2, 0, none⟩ (.int .i64 a)).setCell ⟨g2, 1, none⟩ (.slice av d.length cv) = w5 at *
  go_wp2_with fail
  exact bodyPost_ret (v := .agg #[.int .i64 a, .slice av d.length cv]) (by simp [results, Try.results27, go_sem, r0, r1]) rfl ⟨_, rfl, own_lower hown hle, hBf⟩
end Go.Proofs.Ytbgjahgmkbbgjaa
