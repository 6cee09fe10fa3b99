/- An item's copy; the iterator's value: walked. -/
import Derived.Test.YthipfcmjpgbemaaFq1
namespace Go.Proofs.Ythipfcmjpgbemaa
open Go.RowKit

theorem own_lower {w : World} {base base' : Nat} {e : TypeId} {size : Nat} {v : Value} {n : Nat} {xs : List Value} (h : w.ownsRow base e size v n xs) (hb : base' ≤ base) : w.ownsRow base' e size v n xs := by
  refine ⟨h.1, ?_⟩
  rcases h.2 with hn | ⟨g, cap, cur, hv, hg, rest⟩
  · exact .inl hn
  · exact .inr ⟨g, cap, cur, hv, Nat.le_trans hb hg, rest⟩
theorem own_ge {w : World} {base : Nat} {e : TypeId} {size : Nat} {v : Value} {n : Nat} {xs : List Value} (h : w.ownsRow base e size v n xs) : ∀ k, v.ownBlock = some k → base ≤ k := by
  intro k hk
  rcases h.2 with ⟨hv, _⟩ | ⟨g, cap, cur, hv, hg, _⟩
  · rw [hv] at hk; cases hk
  · rw [hv] at hk; injection hk with hk; subst hk; exact hg
theorem own_lt {w : World} {base : Nat} {e : TypeId} {size : Nat} {v : Value} {n : Nat} {xs : List Value} (h : w.ownsRow base e size v n xs) : ∀ k, v.ownBlock = some k → k < w.heap.size := by
  intro k hk
  rcases h.2 with ⟨hv, _⟩ | ⟨g, cap, cur, hv, _, hh, _⟩
  · rw [hv] at hk; cases hk
  · rw [hv] at hk; injection hk with hk; subst hk; exact lt_of_obj hh
theorem own_below {w w' : World} {base : Nat} {v : Value} {zs : List Nat} (h : Own8 w base v zs) (hB : Below w.heap.size w w') : Own8 w' base v zs := own_only h (Below.only hB (fun _ => False)) (fun _ _ h => h)

set_option maxRecDepth 100000 in
theorem copied_is (no : Nat) (sz : Int) (y : Value) (d : List Nat) (w : World) (hy : Holds8 w y d) (hd : d.length ≤ 1000000) :
    Calls Try.prog 48 #[.agg #[.int .u64 no, .int .i64 sz, y]] w fun e w' => ∃ v, e = .returned (.agg #[.int .u64 no, .int .i64 sz, v]) ∧ Own8 w' w.heap.size v d ∧ Below w.heap.size w w' := by
  obtain ⟨ao, cap, hyv, _⟩ := id hy
  rw [hyv] at hy ⊢
  clear hyv
  go_enter Try.func48, Try.ntmps48
  go_wp2_with fail
  have hB0 : Below w.heap.size w ((w.alloc (.cells #[.int .u64 no, .int .i64 sz, .slice ao d.length cap] 34)).alloc (.cells #[.int .u64 0, .int .i64 0, .slice none 0 0] 34)) := ((Below.refl _ _).alloc (Nat.le_refl _) _).alloc (by simp) _
  have hG1 : ((w.alloc (.cells #[.int .u64 no, .int .i64 sz, .slice ao d.length cap] 34)).alloc (.cells #[.int .u64 0, .int .i64 0, .slice none 0 0] 34)).heap[w.heap.size]? = some (.cells #[.int .u64 no, .int .i64 sz, .slice ao d.length cap] 34 (0, 0)) := (alloc_block_old _ (by simp)).trans (alloc_block_new w _)
  have hG2 : ((w.alloc (.cells #[.int .u64 no, .int .i64 sz, .slice ao d.length cap] 34)).alloc (.cells #[.int .u64 0, .int .i64 0, .slice none 0 0] 34)).heap[w.heap.size + 1]? = some (.cells #[.int .u64 0, .int .i64 0, .slice none 0 0] 34 (0, 0)) := alloc_block_at _ _ (by simp)
  refine (clone_any _ d _ (hy.below hB0) (by omega)).mono ?_
  rintro e w4 ⟨v, rfl, ho, hB4⟩
  obtain ⟨av, cv, hav⟩ := own_shape ho
  rw [hav]
  have hs := hB0.size
  have h41 := (hB4.block w.heap.size (lt_of_obj hG1)).trans hG1
  have h42 := (hB4.block (w.heap.size + 1) (lt_of_obj hG2)).trans hG2
  generalize hg1 : w.heap.size = g1 at *
  generalize hg2 : g1 + 1 = g2 at *
  have hne : ¬ g1 = g2 := by omega
  have hne' : ¬ g2 = g1 := by omega
  have l2 := lt_of_obj hG2
  have l1 := lt_of_obj hG1
  rw [hav] at ho
  have HO := Lib.hid ho
  have HB := Lib.hid (hB0.trans (hB4.mono hs))
  have HL := Lib.hid (show g2 < ((w.alloc (.cells #[.int .u64 no, .int .i64 sz, .slice ao d.length cap] 34)).alloc (.cells #[.int .u64 0, .int .i64 0, .slice none 0 0] 34)).heap.size from l2)
  have k0 : w4.cell? ⟨g1, 0, none⟩ = _ := cell_of_block h41 0
  have k1 : w4.cell? ⟨g1, 1, none⟩ = _ := cell_of_block h41 1
  have k2 : w4.cell? ⟨g1, 2, none⟩ = _ := cell_of_block h41 2
  have m0 : w4.cell? ⟨g2, 0, none⟩ = _ := cell_of_block h42 0
  have m1 : w4.cell? ⟨g2, 1, none⟩ = _ := cell_of_block h42 1
  have m2 : w4.cell? ⟨g2, 2, none⟩ = _ := cell_of_block h42 2
  have f0 := free_of_block h41 2
  have f1 := free_of_block h42 0
  have f2 := free_of_block h42 1
  have f3 := free_of_block h42 2
  dsimp at k0 k1 k2 m0 m1 m2
  have HG1 := Lib.hid hg1
  have HG2 := Lib.hid hg2
  have HS := Lib.hid hs
  clear hB0 hG1 hG2 hB4 h41 h42 ho hy hg1 hg2 l1 l2 hs hav
  go_wp2_with fail
  have hgw := HG1.out
  have hgw2 := HG2.out
  have hO5 : Only (fun k => k = g1 ∨ k = g2) w4 ((((w4.setCell ⟨g1, 2, none⟩ (.slice av d.length cv)).setCell ⟨g2, 0, none⟩ (.int .u64 no)).setCell ⟨g2, 1, none⟩ (.int .i64 sz)).setCell ⟨g2, 2, none⟩ (.slice av d.length cv)) :=
    Only.setCell (p := ⟨g2, 2, none⟩) (Only.setCell (p := ⟨g2, 1, none⟩) (Only.setCell (p := ⟨g2, 0, none⟩) (Only.setCell (p := ⟨g1, 2, none⟩) (Only.refl _ w4) (fun _ => .inl rfl) _) (fun _ => .inr rfl) _) (fun _ => .inr rfl) _) (fun _ => .inr rfl) _
  have hown := own_only HO.out hO5 (fun k hk e => by have := own_ge HO.out k hk; have := HL.out; omega)
  have hBf := HB.out.trans (hO5.below (B := g1) (by have := HB.out.size; omega) (fun k hk e => by omega))
  have r0 : ((((w4.setCell ⟨g1, 2, none⟩ (.slice av d.length cv)).setCell ⟨g2, 0, none⟩ (.int .u64 no)).setCell ⟨g2, 1, none⟩ (.int .i64 sz)).setCell ⟨g2, 2, none⟩ (.slice av d.length cv)).cell? ⟨g2, 0, none⟩ = some (.int .u64 no) := by simp [go_sem, m0, m1, m2, hne, hne']
  have r1 : ((((w4.setCell ⟨g1, 2, none⟩ (.slice av d.length cv)).setCell ⟨g2, 0, none⟩ (.int .u64 no)).setCell ⟨g2, 1, none⟩ (.int .i64 sz)).setCell ⟨g2, 2, none⟩ (.slice av d.length cv)).cell? ⟨g2, 1, none⟩ = some (.int .i64 sz) := by simp [go_sem, m0, m1, m2, hne, hne']
  have r2 : ((((w4.setCell ⟨g1, 2, none⟩ (.slice av d.length cv)).setCell ⟨g2, 0, none⟩ (.int .u64 no)).setCell ⟨g2, 1, none⟩ (.int .i64 sz)).setCell ⟨g2, 2, none⟩ (.slice av d.length cv)).cell? ⟨g2, 2, none⟩ = some (.slice av d.length cv) := by simp [go_sem, m0, m1, m2, hne, hne']
  have hs := HS.out
  generalize (((w4.setCell ⟨g1, 2, none⟩ (.slice av d.length cv)).setCell ⟨g2, 0, none⟩ (.int .u64 no)).setCell ⟨g2, 1, none⟩ (.int .i64 sz)).setCell ⟨g2, 2, none⟩ (.slice av d.length cv) = w5 at *
  exact bodyPost_ret (v := .agg #[.int .u64 no, .int .i64 sz, .slice av d.length cv]) (by simp [results, Try.results48, go_sem, r0, r1, r2]) rfl ⟨_, rfl, by rw [hgw]; exact own_lower hown hs, by rw [hgw]; exact hBf⟩

theorem all_is (p : Nat) (w : World) :
    Calls Try.prog 56 #[.pointer (some ⟨p, 0, none⟩)] w fun e w' => e = .returned (.func (.func 67) #[] #[.pointer (some ⟨w.heap.size, 0, none⟩)]) ∧ w' = w.alloc (.cells #[.pointer (some ⟨p, 0, none⟩)] 74) := by
  go_enter Try.func56, Try.ntmps56
  go_wp2_with fail
  go_ret
  exact ⟨rfl, rfl⟩
end Go.Proofs.Ythipfcmjpgbemaa
