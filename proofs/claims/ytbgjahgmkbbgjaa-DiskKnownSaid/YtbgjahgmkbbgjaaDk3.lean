/- Sync, walked. -/
import Derived.Test.YtbgjahgmkbbgjaaDk1
import Derived.Test.YtbgjahgmkbbgjaaCopy8
namespace Go.Proofs.Ytbgjahgmkbbgjaa
open Go.RowKit

theorem laid_all {zs ys : List Nat} (h : ys.length = zs.length) : laid zs 0 ys = ys := by
  simp [laid, h]

theorem sync_nil (w : World) :
    Calls Try.prog 10 #[.pointer none] w fun e w' => e = .returned (.int .i64 1) ∧ w' = w := by
  go_enter Try.func10, Try.ntmps10
  go_wp2_with fail
  go_ret
  exact ⟨rfl, rfl⟩

/-- Copy of the whole of one own row over another. -/
theorem copy_all {w : World} {v u : Value} {zs ys : List Nat} (hv : Own8 w 0 v zs) (hu : Own8 w 0 u ys) (hl : ys.length = zs.length) (ty : TypeId) :
    ∃ w', (Builtin.copy_ #[31, 31] ty #[v, u]).run Try.prog w = .ok (goInt ys.length) w' ∧ Own8 w' 0 v ys ∧ Only (fun k => v.ownBlock = some k) w w' ∧ w'.heap.size = w.heap.size := by
  obtain ⟨b, c, hb⟩ := hv.shape
  have h := run_copy8 hv 0 (ys := ys) (by omega) ty b c c hb v (.inl (by rw [hb]; cases b <;> simp [Addr.add_lit, Addr.add])) hu.holds
  rw [laid_all hl] at h
  exact h

theorem set2_block {w : World} {p : Nat} {a b c : Value} {T : TypeId} (h : w.heap[p]? = some (.cells #[a, b, c] T (0, 0))) (u : Value) :
    (w.setCell ⟨p, 2, none⟩ u).heap[p]? = some (.cells #[a, b, u] T (0, 0)) ∧ Only (· = p) w (w.setCell ⟨p, 2, none⟩ u) := by
  rw [setCell_eq_setRow w p 2 _ T (0, 0) u h]
  have := stored_setRow (cs := (#[a, b, c] : Array Value).setIfInBounds 2 u) h
  exact ⟨this.blk, this.only⟩

theorem sync_is {w : World} {p : Nat} {r : Nat → Nat} {D : DS} {dv nv uv : Value} {xs : List Value} (h : IsD w p r D dv nv uv xs) (hs : D.dur.length = D.now.length) :
    Calls Try.prog 10 #[.pointer (some ⟨p, 0, none⟩)] w fun e w' => e = .returned (.int .i64 0) ∧ IsD w' p r ⟨D.now, D.now, []⟩ dv nv (.slice none 0 0) [] ∧ Only (fun k => r k ≠ 0) w w' := by
  have c0 := h.c0
  have c1 := h.c1
  go_enter Try.func10, Try.ntmps10
  go_wp2_with fail
  refine region_tail 8 (by kernel_rfl) (by kernel_rfl) ?_
  simp only [List.take_succ_cons, List.take_zero, List.drop_succ_cons, List.drop_zero]
  repeat still_step
  refine wpStill_nil ?_
  clear c0 c1
  have h2 := h.keep (Only.refl (fun _ => False) w).drew (fun _ _ h => h)
  obtain ⟨w2, hr, hO, hOn, hsz⟩ := copy_all h2.dur h2.now hs.symm 3
  refine wpList_copy_by _ rfl (.tmp 8) (.tmp 12) 31 31 rfl _ _ rfl rfl hr ?_
  have hB2 := hOn.keep h2.blk (fun e => by have := h2.rd p e; rw [h2.rp] at this; exact absurd this (by decide))
  have k2 : w2.cell? ⟨p, 2, none⟩ = some uv := cell_of_block hB2 2
  have f2 : w2.frozen? ⟨p, 2, none⟩ = false := free_of_block hB2 2
  go_wp2_with fail
  go_ret
  obtain ⟨hC, hCO⟩ := set2_block hB2 (.slice none 0 0)
  have hS : Only (fun k => k = p ∨ dv.ownBlock = some k) w (w2.setCell ⟨p, 2, none⟩ (.slice none 0 0)) := ((Only.refl _ _).drew.trans (hOn.mono (fun _ _ e => .inr e))).trans (hCO.mono (fun _ _ e => .inl e))
  refine ⟨rfl, ⟨hC, own_only hO hCO (fun k hk e => ?_), own_only (own_only h2.now hOn (fun k hk e => ?_)) hCO (fun k hk e => ?_), World.ownsRow_nil _ _ _ _, trivial, h.rp, h.rd, h.rn, fun k hk => (by cases hk), fun k hk => Nat.lt_of_lt_of_le (h.lt k hk) hS.size⟩, hS.mono (fun k _ e => ?_)⟩
  · have := h.rd k hk; subst e; rw [h.rp] at this; exact absurd this (by decide)
  · have h3 := h.rn k hk; have h4 := h.rd k e; omega
  · have := h.rn k hk; subst e; rw [h.rp] at this; exact absurd this (by decide)
  · rcases e with rfl | e
    · rw [h.rp]; decide
    · rw [h.rd k e]; decide
end Go.Proofs.Ytbgjahgmkbbgjaa
