/- Copy, walked. -/
import Derived.Test.YtbgjahgmkbbgjaaDk6
namespace Go.Proofs.Ytbgjahgmkbbgjaa
open Go.RowKit

/-- The roles of a copy's blocks. -/
def roleC (p : Nat) (v1 v2 v3 : Value) (F : Nat → Prop) [DecidablePred F] : Nat → Nat := fun k => if k = p then 1 else if v1.ownBlock = some k then 2 else if v2.ownBlock = some k then 3 else if v3.ownBlock = some k then 4 else if F k then 5 else 0

theorem copied_disk {w wF : World} {D : DS} {v1 v2 v3 : Value} {ys : List Value} {F : Nat → Prop} {a1 a2 a3 b1 b2 b3 : Nat} (h1 : Own8 wF 0 v1 D.dur) (h2 : Own8 wF 0 v2 D.now) (h3 : NewW a3 wF F v3 ys D.uns)
    (i1 : ∀ k, v1.ownBlock = some k → a1 ≤ k ∧ k < b1) (i2 : ∀ k, v2.ownBlock = some k → a2 ≤ k ∧ k < b2) (i3 : ∀ k, v3.ownBlock = some k → k < b3) (i4 : ∀ k, F k → k < b3)
    (g1 : w.heap.size ≤ a1) (g2 : w.heap.size ≤ a2) (g3 : w.heap.size ≤ a3) (d12 : b1 ≤ a2 ∨ b2 ≤ a1) (d13 : b1 ≤ a3 ∨ b3 ≤ a1) (d23 : b2 ≤ a3 ∨ b3 ≤ a2) (hB : Below w.heap.size w wF) :
    ∃ r, IsD (wF.alloc (.cells #[v1, v2, v3] 53)) wF.heap.size r D v1 v2 v3 ys ∧ ∀ k, r k ≠ 0 → w.heap.size ≤ k := by
  classical
  have l1 := own_lt h1
  have l2 := own_lt h2
  have l3 := own_lt h3.row
  have hA : Only (fun _ => False) wF (wF.alloc (.cells #[v1, v2, v3] 53)) := (Only.refl _ _).alloc _
  have hs := hB.size
  refine ⟨roleC wF.heap.size v1 v2 v3 F, ⟨alloc_block_new wF _, own_only h1 hA (fun _ _ h => h), own_only h2 hA (fun _ _ h => h), own_only h3.row hA (fun _ _ h => h), ?_, ?_, ?_, ?_, ?_, ?_⟩, ?_⟩
  · refine (h3.wcs.keep hA (fun _ _ h => h)).mono (fun k hk => ?_)
    have e0 := h3.lt k hk
    have e1 : ¬ v1.ownBlock = some k := fun e => by have := i1 k e; have := h3.ge k hk; have := i4 k hk; omega
    have e2 : ¬ v2.ownBlock = some k := fun e => by have := i2 k e; have := h3.ge k hk; have := i4 k hk; omega
    have e3 : ¬ v3.ownBlock = some k := fun e => h3.ne k e hk
    unfold roleC
    rw [if_neg (by omega), if_neg e1, if_neg e2, if_neg e3, if_pos hk]
  · simp [roleC]
  · intro k hk
    have := l1 k hk
    unfold roleC
    rw [if_neg (by omega), if_pos hk]
  · intro k hk
    have := l2 k hk
    unfold roleC
    rw [if_neg (by omega), if_neg (fun e => by have := i1 k e; have := i2 k hk; omega), if_pos hk]
  · intro k hk
    have := l3 k hk
    unfold roleC
    rw [if_neg (by omega), if_neg (fun e => by have := i1 k e; have := i3 k hk; have := h3.vge k hk; omega), if_neg (fun e => by have := i2 k e; have := i3 k hk; have := h3.vge k hk; omega), if_pos hk]
  · intro k hk
    have hsz : (wF.alloc (.cells #[v1, v2, v3] 53)).heap.size = wF.heap.size + 1 := by simp
    rw [hsz]
    unfold roleC at hk
    split at hk
    · omega
    · split at hk
      · have := l1 k ‹_›; omega
      · split at hk
        · have := l2 k ‹_›; omega
        · split at hk
          · have := l3 k ‹_›; omega
          · split at hk
            · have := h3.lt k ‹_›; omega
            · exact absurd rfl hk
  · intro k hk
    unfold roleC at hk
    split at hk
    · omega
    · split at hk
      · have := i1 k ‹_›; omega
      · split at hk
        · have := i2 k ‹_›; omega
        · split at hk
          · have := h3.vge k ‹_›; omega
          · split at hk
            · have := h3.ge k ‹_›; omega
            · exact absurd rfl hk

theorem copy_nil (w : World) :
    Calls Try.prog 17 #[.pointer none] w fun e w' => e = .returned (.pointer none) ∧ w' = w := by
  go_enter Try.func17, Try.ntmps17
  go_wp2_with fail
  go_ret
  exact ⟨rfl, rfl⟩

theorem NewW.below {base : Nat} {w w' : World} {F : Nat → Prop} {v : Value} {xs : List Value} {l : List (Nat × List Nat)} (h : NewW base w F v xs l) (hB : Below w.heap.size w w') : NewW base w' F v xs l :=
  ⟨own_only h.row (Below.only hB (fun _ => False)) (fun _ _ h => h), h.wcs.keep (Below.only hB (fun _ => False)) (fun _ _ h => h), h.ge, fun j hj => Nat.lt_of_lt_of_le (h.lt j hj) hB.size, h.vge, h.ne⟩
theorem IsD.below {w w' : World} {p : Nat} {r : Nat → Nat} {D : DS} {dv nv uv : Value} {xs : List Value} (h : IsD w p r D dv nv uv xs) (hB : Below w.heap.size w w') : IsD w' p r D dv nv uv xs :=
  h.keep (Below.only hB (fun _ => False)) (fun _ _ h => h)
theorem own_below {w w' : World} {base : Nat} {v : Value} {zs : List Nat} (h : Own8 w base v zs) (hB : Below w.heap.size w w') : Own8 w' 0 v zs :=
  own_lower (own_only h (Below.only hB (fun _ => False)) (fun _ _ h => h)) (Nat.zero_le _)

set_option maxRecDepth 100000 in
theorem copy_is {w : World} {p : Nat} {r : Nat → Nat} {D : DS} {dv nv uv : Value} {xs : List Value} (h : IsD w p r D dv nv uv xs) (hu : D.uns.length ≤ 1000000) (hd : ∀ x ∈ D.uns, x.2.length ≤ 1000000) (h1 : D.dur.length ≤ 1000000) (h2 : D.now.length ≤ 1000000) :
    Calls Try.prog 17 #[.pointer (some ⟨p, 0, none⟩)] w fun e w' => ∃ q r' dv' nv' uv' xs', e = .returned (.pointer (some ⟨q, 0, none⟩)) ∧ IsD w' q r' D dv' nv' uv' xs' ∧ Below w.heap.size w w' ∧ ∀ k, r' k ≠ 0 → w.heap.size ≤ k := by
  have c0 := h.c0
  have c1 := h.c1
  have hp := lt_of_obj h.blk
  have HU := Lib.hid h
  have HD := Lib.hid hd
  obtain ⟨da, dc, hdv⟩ := h.dur.shape
  obtain ⟨na, nc, hnv⟩ := h.now.shape
  have HDV := Lib.hid hdv
  have HNV := Lib.hid hnv
  clear h hd hdv hnv
  go_enter Try.func17, Try.ntmps17
  go_wp2_with fail
  go_region_held3 (fun w' => w'.cell? ⟨p, 0, none⟩ = some dv ∧ w'.cell? ⟨p, 1, none⟩ = some nv) (go_keep)
    (first
      | (go_at_call_of 29 dv; refine Calls.mono (clone_any _ D.dur _ ?_ ?_) ?_
         · exact (HU.out.below (by first | exact (Below.refl _ _).drew | assumption)).dur.holds
         · omega
         rintro e wA ⟨vA, rfl, hoA, hbA⟩
         have hBA : Below w.heap.size w wA := Below.trans (by first | exact (Below.refl _ _).drew | assumption) (hbA.mono (by first | exact Nat.le_refl _ | exact Below.size (by assumption)))
         have dA0 := (hBA.cell (p := ⟨p, 0, none⟩) hp).trans c0
         have dA1 := (hBA.cell (p := ⟨p, 1, none⟩) hp).trans c1
         obtain ⟨aA, cA, rfl⟩ := hoA.shape
         have HOA := Lib.hid hoA
         clear hoA)
      | (go_at_call_of 29 nv; refine Calls.mono (clone_any _ D.now _ ?_ ?_) ?_
         · exact (HU.out.below (by first | exact (Below.refl _ _).drew | assumption)).now.holds
         · omega
         rintro e wB ⟨vB, rfl, hoB, hbB⟩
         have hBB : Below w.heap.size w wB := Below.trans (by first | exact (Below.refl _ _).drew | assumption) (hbB.mono (by first | exact Nat.le_refl _ | exact Below.size (by assumption)))
         have dB0 := (hBB.cell (p := ⟨p, 0, none⟩) hp).trans c0
         have dB1 := (hBB.cell (p := ⟨p, 1, none⟩) hp).trans c1
         obtain ⟨aB, cB, rfl⟩ := hoB.shape
         have HOB := Lib.hid hoB
         clear hoB)
      | (go_at_call 16; refine Calls.mono (unsynced_is (w := _) (r := r) (D := D) (dv := dv) (nv := nv) (uv := uv) (xs := xs) ?_ ?_ ?_) ?_
         · exact HU.out.below (by first | exact (Below.refl _ _).drew | assumption)
         · exact hu
         · exact HD.out
         rintro e wC ⟨vC, F, ys, rfl, hoC, hbC⟩
         have hBC : Below w.heap.size w wC := Below.trans (by first | exact (Below.refl _ _).drew | assumption) (hbC.mono (by first | exact Nat.le_refl _ | exact Below.size (by assumption)))
         have dC0 := (hBC.cell (p := ⟨p, 0, none⟩) hp).trans c0
         have dC1 := (hBC.cell (p := ⟨p, 1, none⟩) hp).trans c1
         obtain ⟨aC, cC, rfl⟩ := own_shape hoC.row
         have HOC := Lib.hid hoC
         clear hoC))
  have hs0 : w.drew.heap.size = w.heap.size := rfl
  rw [hs0] at HOA
  have hsA := hBA.size
  have hsB := hbB.size
  have hsC := hbC.size
  obtain ⟨r', hD', hr'⟩ := copied_disk (w := w) (a1 := w.heap.size) (b1 := wA.heap.size) (a2 := wA.heap.size) (b2 := wB.heap.size) (a3 := wB.heap.size) (b3 := wC.heap.size)
    (own_below (own_below HOA.out hbB) hbC) (own_below HOB.out hbC) HOC.out (fun k hk => ⟨own_ge HOA.out k hk, own_lt HOA.out k hk⟩) (fun k hk => ⟨own_ge HOB.out k hk, own_lt HOB.out k hk⟩) (fun k hk => own_lt HOC.out.row k hk) HOC.out.lt
    (Nat.le_refl _) hsA (Nat.le_trans hsA hsB) (.inl (Nat.le_refl _)) (.inl hsB) (.inl (Nat.le_refl _)) hBC
  have HF := Lib.hid hD'
  have HR := Lib.hid hr'
  clear hD' hr' hs0
  go_wp2_with fail
  go_ret
  exact ⟨_, r', _, _, _, _, rfl, HF.out, hBC.alloc hBC.size _, HR.out⟩
end Go.Proofs.Ytbgjahgmkbbgjaa
