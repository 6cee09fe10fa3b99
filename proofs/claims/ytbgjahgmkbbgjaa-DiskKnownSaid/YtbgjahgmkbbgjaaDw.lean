/- The chapter's examples of a disk, walked. -/
import Derived.Test.YtbgjahgmkbbgjaaDk9
namespace Go.Proofs.Ytbgjahgmkbbgjaa
open Go.RowKit

theorem write_c (c : Int) (a : Int) (y : Value) (d : List Nat) {w : World} {p : Nat} {r : Nat → Nat} {N : Nat} {D : DS} (h : Dsk w p r N D) (hy : Holds8 w y d) (hyr : 0 < d.length → ∀ k, y.ownBlock = some k → r k = 0) (hu : D.uns.length + 1 ≤ 1000000) (hc : (wcode N a d.length : Int) = c) :
    Calls Try.prog 13 #[.pointer (some ⟨p, 0, none⟩), .int .i64 a, y] w fun e w' => e = .returned (.int .i64 c) ∧
      ∃ r', Dsk w' p r' N (wrote N D a d) ∧ Only (fun k => r k ≠ 0) w w' ∧ ∀ k, r' k ≠ 0 → r k ≠ 0 ∨ w.heap.size ≤ k := by
  subst hc
  exact write_d a y d h hy hyr hu

theorem block_new {w : World} {p : Nat} {r : Nat → Nat} {N : Nat} {D : DS} (h : Dsk w p r N D) (n c : Nat) {z : Nat} : 0 < z → ∀ k, (Value.slice (some ⟨w.heap.size, 0, none⟩) n c).ownBlock = some k → r k = 0 := by
  intro _ k hk
  injection hk with hk
  subst hk
  rcases Nat.eq_zero_or_pos (r w.heap.size) with e | e
  · exact e
  · exact absurd (h.lt _ (by omega)) (Nat.lt_irrefl _)

/-- What is known of a disk of the call's own: it lies, all its blocks are new. -/
structure Mine (W w : World) (p : Nat) (r : Nat → Nat) (N : Nat) (D : DS) : Prop where
  d : Dsk w p r N D
  new : ∀ k, r k ≠ 0 → W.heap.size ≤ k
  bel : Below W.heap.size W w

theorem Mine.alloc {W w : World} {p : Nat} {r : Nat → Nat} {N : Nat} {D : DS} (h : Mine W w p r N D) (o : Obj) : Mine W (w.alloc o) p r N D :=
  ⟨h.d.below ((Below.refl _ _).alloc (Nat.le_refl _) _), h.new, h.bel.alloc h.bel.size _⟩
theorem Mine.below {W w w' : World} {p : Nat} {r : Nat → Nat} {N : Nat} {D : DS} (h : Mine W w p r N D) (hB : Below w.heap.size w w') : Mine W w' p r N D :=
  ⟨h.d.below hB, h.new, h.bel.trans (hB.mono h.bel.size)⟩
theorem Mine.step {W w w' : World} {p : Nat} {r r' : Nat → Nat} {N : Nat} {D D' : DS} (h : Mine W w p r N D) (hD : Dsk w' p r' N D') (hO : Only (fun k => r k ≠ 0) w w') (hr : ∀ k, r' k ≠ 0 → r k ≠ 0 ∨ w.heap.size ≤ k) : Mine W w' p r' N D' :=
  ⟨hD, fun k hk => (hr k hk).elim (h.new k) (fun e => Nat.le_trans h.bel.size e), h.bel.trans (hO.below h.bel.size (fun k hk e => by have := h.new k e; omega))⟩
theorem Mine.other {W w w' : World} {p : Nat} {r : Nat → Nat} {N : Nat} {D : DS} (h : Mine W w p r N D) {S : Nat → Prop} (hO : Only S w w') (hS : ∀ k, r k ≠ 0 → ¬ S k) (hb : Below W.heap.size W w') : Mine W w' p r N D :=
  ⟨h.d.keep hO hS, h.new, hb⟩

theorem fates_new (w : World) (x y : Int) (e : TypeId) : Fates (w.alloc (.cells #[.int .i64 x, .int .i64 y] e)) (.slice (some ⟨w.heap.size, 0, none⟩) 1 1) [(x, y)] := by
  refine ⟨_, 1, rfl, fun _ => ⟨_, _, rfl, by simp, fun j k a hj => ?_⟩⟩
  have hj0 : j = 0 := by have := (List.getElem?_eq_some_iff.1 hj).1; simp at this; exact this
  subst hj0
  simp at hj
  obtain ⟨rfl, rfl⟩ := hj
  exact ⟨cell_of_block (alloc_block_new w _) 0, cell_of_block (alloc_block_new w _) 1⟩

theorem own_keep {w w' : World} {base : Nat} {v : Value} {zs : List Nat} {S : Nat → Prop} (h : Own8 w base v zs) (hO : Only S w w') (hS : ∀ k, v.ownBlock = some k → ¬ S k) : Own8 w' base v zs := own_only h hO hS
theorem own_belowb {w w' : World} {base : Nat} {v : Value} {zs : List Nat} (h : Own8 w base v zs) (hB : Below w.heap.size w w') : Own8 w' base v zs := own_only h (Below.only hB (fun _ => False)) (fun _ _ h => h)

set_option maxRecDepth 100000 in
set_option maxHeartbeats 1000000 in
theorem works_any (w : World) :
    Calls Try.prog 8 #[] w fun e w' => e = .returned (.bool true) ∧ Below w.heap.size w w' := by
  go_enter Try.func8, Try.ntmps8
  go_wp2_with fail
  refine (new_d 8 (by omega) _).mono ?_
  rintro e w1 ⟨p, r1, rfl, hD1, hO1, hr1⟩
  have M1 : Mine w w1 p r1 8 (blank 8) := ⟨hD1, hr1, hO1.below (Nat.le_refl _) (fun _ _ h => h)⟩
  clear hO1 hD1 hr1
  go_wp2_with fail
  refine (write_c 0 0 _ [1, 2] (M1.alloc _).d (holds_new (zs := [1, 2]) rfl (alloc_block_new _ _)) (block_new M1.d _ _) (by decide) (by decide)).mono ?_
  rintro e w2 ⟨rfl, r2, hD2, hO2, hr2⟩
  have M2 := (M1.alloc _).step hD2 hO2 hr2
  clear hO2 hD2 hr2 M1
  go_wp2_with fail
  refine (sync_d M2.d).mono ?_
  rintro e w3 ⟨rfl, hD3, hO3⟩
  have M3 := M2.step hD3 hO3 (fun _ h => .inl h)
  clear hD3 hO3 M2
  go_wp2_with fail
  refine (write_c 0 1 _ [3, 4, 5] (M3.alloc _).d (holds_new (zs := [3, 4, 5]) rfl (alloc_block_new _ _)) (block_new M3.d _ _) (by decide) (by decide)).mono ?_
  rintro e w4 ⟨rfl, r4, hD4, hO4, hr4⟩
  have M4 := (M3.alloc _).step hD4 hO4 hr4
  clear hO4 hD4 hr4 M3
  go_wp2_with fail
  refine (read_d 0 4 M4.d (by decide)).mono ?_
  rintro e w5 ⟨va, rfl, hva, hB5⟩
  have M5 := M4.below hB5
  go_wp2_with fail
  refine (durable_d 0 4 M5.d (by decide)).mono ?_
  rintro e w6 ⟨vb, rfl, hvb, hB6⟩
  have M6 := M5.below hB6
  go_wp2_with fail
  refine (copy_d M6.d).mono ?_
  rintro e w7 ⟨q, r7, rfl, hC7, hB7, hr7⟩
  have M7 := (M6.below hB7).alloc (.cells #[.int .i64 2, .int .i64 2] 44)
  have C7 : Mine w (w7.alloc (.cells #[.int .i64 2, .int .i64 2] 44)) q r7 8 _ := Mine.alloc ⟨hC7, fun k hk => Nat.le_trans M6.bel.size (hr7 k hk), M6.bel.trans (hB7.mono M6.bel.size)⟩ _
  go_wp2_with fail
  refine (crash_d _ [(2, 2)] M7.d (fates_new _ 2 2 _) (block_new (M6.below hB7).d 1 1) (by decide)).mono ?_
  rintro e w8 ⟨rfl, hD8, hO8⟩
  have hlt4 := M4.d.lt
  have s5 := hB5.size
  have s6 := hB6.size
  have s7 := hB7.size
  have hne : ∀ k, r7 k ≠ 0 → ¬ r4 k ≠ 0 := fun k h7 h4 => by have := hr7 k h7; have := hlt4 k h4; omega
  have M8 := M7.step hD8 hO8 (fun _ h => .inl h)
  have C8 := C7.other hO8 hne M8.bel
  go_wp2_with fail
  refine (crash_d _ [] C8.d (fates_nil _) (fun _ k hk => (by cases hk)) (by decide)).mono ?_
  rintro e w9 ⟨rfl, hC9, hO9⟩
  have C9 := C8.step hC9 hO9 (fun _ h => .inl h)
  have M9 := M8.other hO9 (fun k h4 h7 => hne k h7 h4) C9.bel
  have kva : ∀ k, va.ownBlock = some k → ¬ r4 k ≠ 0 ∧ ¬ r7 k ≠ 0 := fun k hk => by
    have a1 := own_ge hva k hk
    have a2 := own_lt hva k hk
    exact ⟨fun h => by have := hlt4 k h; omega, fun h => by have := hr7 k h; omega⟩
  have kvb : ∀ k, vb.ownBlock = some k → ¬ r4 k ≠ 0 ∧ ¬ r7 k ≠ 0 := fun k hk => by
    have a1 := own_ge hvb k hk
    have a2 := own_lt hvb k hk
    exact ⟨fun h => by have := hlt4 k h; omega, fun h => by have := hr7 k h; omega⟩
  have hva9 := own_keep (own_keep (own_belowb (own_belowb (own_belowb hva hB6) hB7) ((Below.refl _ _).alloc (Nat.le_refl _) _)) hO8 (fun k hk => (kva k hk).1)) hO9 (fun k hk => (kva k hk).2)
  have hvb9 := own_keep (own_keep (own_belowb (own_belowb hvb hB7) ((Below.refl _ _).alloc (Nat.le_refl _) _)) hO8 (fun k hk => (kvb k hk).1)) hO9 (fun k hk => (kvb k hk).2)
  have HVA := Lib.hid hva9
  have HVB := Lib.hid hvb9
  clear hva hvb hva9 hvb9 kva kvb hO8 hO9 hC9 hD8 hC7 hne hlt4 M4 M5 M6 M7 M8 C7 C8
  go_wp2_with fail
  refine (read_d 0 4 M9.d (by decide)).mono ?_
  rintro e w10 ⟨vx, rfl, hvx, hB10⟩
  have C10 := C9.below hB10
  have M10 := M9.below hB10
  go_wp2_with fail
  refine (read_d 0 4 C10.d (by decide)).mono ?_
  rintro e w11 ⟨vy, rfl, hvy, hB11⟩
  have M11 := M10.below hB11
  have ha := own_belowb (own_belowb HVA.out hB10) hB11
  have hb := own_belowb (own_belowb HVB.out hB10) hB11
  have hx := own_belowb hvx hB11
  have ea : List.take 4 (List.drop 0 (wrote 8 (synced (wrote 8 (blank 8) 0 [1, 2]).now) 1 [3, 4, 5]).now) = [1, 3, 4, 5] := by decide
  have eb : List.take 4 (List.drop 0 (wrote 8 (synced (wrote 8 (blank 8) 0 [1, 2]).now) 1 [3, 4, 5]).dur) = [1, 2, 0, 0] := by decide
  have ex : List.take 4 (List.drop 0 (synced (crashed (wrote 8 (synced (wrote 8 (blank 8) 0 [1, 2]).now) 1 [3, 4, 5]) [(2, 2)])).now) = [1, 3, 4, 0] := by decide
  have ey : List.take 4 (List.drop 0 (synced (crashed (wrote 8 (synced (wrote 8 (blank 8) 0 [1, 2]).now) 1 [3, 4, 5]) [])).now) = [1, 2, 0, 0] := by decide
  rw [ea] at ha
  rw [eb] at hb
  rw [ex] at hx
  rw [ey] at hvy
  have KA := Lib.hid (own_lower ha (Nat.zero_le _))
  have KB := Lib.hid (own_lower hb (Nat.zero_le _))
  have KX := Lib.hid (own_lower hx (Nat.zero_le _))
  have KY := Lib.hid (own_lower hvy (Nat.zero_le _))
  clear ea eb ex ey ha hb hx hvy HVA HVB hvx hB10 hB11 M9 C9 C10 M10 hr7 hB5 hB6 hB7 s5 s6 s7
  have al : ∀ (x : World) (o : Obj), Below x.heap.size x (x.alloc o) := fun x o => (Below.refl _ _).alloc (Nat.le_refl _) _
  go_wp2_with fail
  refine Calls.mono (same8_eq _ _ [1, 3, 4, 5] _ ?_ ?_) ?_
  · exact (own_belowb KA.out (al _ _)).holds
  · exact (holds_new (zs := [1, 3, 4, 5]) rfl (alloc_block_new _ _))
  rintro e w' ⟨rfl, rfl⟩
  have N1 := M11.alloc (.cells #[.int .u8 1, .int .u8 3, .int .u8 4, .int .u8 5] 5)
  have KB1 := Lib.hid (own_belowb KB.out (al w11 (.cells #[.int .u8 1, .int .u8 3, .int .u8 4, .int .u8 5] 5)))
  have KX1 := Lib.hid (own_belowb KX.out (al w11 (.cells #[.int .u8 1, .int .u8 3, .int .u8 4, .int .u8 5] 5)))
  have KY1 := Lib.hid (own_belowb KY.out (al w11 (.cells #[.int .u8 1, .int .u8 3, .int .u8 4, .int .u8 5] 5)))
  generalize w11.alloc (.cells #[.int .u8 1, .int .u8 3, .int .u8 4, .int .u8 5] 5) = w12 at *
  clear KA KB KX KY M11
  go_wp2_with fail
  refine Calls.mono (same8_eq _ _ [1, 2, 0, 0] _ ?_ ?_) ?_
  · exact (own_belowb KB1.out (al _ _)).holds
  · exact (holds_new (zs := [1, 2, 0, 0]) rfl (alloc_block_new _ _))
  rintro e w' ⟨rfl, rfl⟩
  have N2 := N1.alloc (.cells #[.int .u8 1, .int .u8 2, .int .u8 0, .int .u8 0] 5)
  have KX2 := Lib.hid (own_belowb KX1.out (al w12 (.cells #[.int .u8 1, .int .u8 2, .int .u8 0, .int .u8 0] 5)))
  have KY2 := Lib.hid (own_belowb KY1.out (al w12 (.cells #[.int .u8 1, .int .u8 2, .int .u8 0, .int .u8 0] 5)))
  generalize w12.alloc (.cells #[.int .u8 1, .int .u8 2, .int .u8 0, .int .u8 0] 5) = w13 at *
  clear KB1 KX1 KY1 N1
  go_wp2_with fail
  refine Calls.mono (same8_eq _ _ [1, 3, 4, 0] _ ?_ ?_) ?_
  · exact (own_belowb KX2.out (al _ _)).holds
  · exact (holds_new (zs := [1, 3, 4, 0]) rfl (alloc_block_new _ _))
  rintro e w' ⟨rfl, rfl⟩
  have N3 := N2.alloc (.cells #[.int .u8 1, .int .u8 3, .int .u8 4, .int .u8 0] 5)
  have KY3 := Lib.hid (own_belowb KY2.out (al w13 (.cells #[.int .u8 1, .int .u8 3, .int .u8 4, .int .u8 0] 5)))
  generalize w13.alloc (.cells #[.int .u8 1, .int .u8 3, .int .u8 4, .int .u8 0] 5) = w14 at *
  clear KX2 KY2 N2
  go_wp2_with fail
  refine Calls.mono (same8_eq _ _ [1, 2, 0, 0] _ ?_ ?_) ?_
  · exact (own_belowb KY3.out (al _ _)).holds
  · exact (holds_new (zs := [1, 2, 0, 0]) rfl (alloc_block_new _ _))
  rintro e w' ⟨rfl, rfl⟩
  have N4 := N3.alloc (.cells #[.int .u8 1, .int .u8 2, .int .u8 0, .int .u8 0] 5)
  generalize w14.alloc (.cells #[.int .u8 1, .int .u8 2, .int .u8 0, .int .u8 0] 5) = w15 at *
  clear KY3 N3
  go_wp2_with fail
  refine (write_c 130 7 _ [1, 2] (N4.alloc _).d (holds_new (zs := [1, 2]) rfl (alloc_block_new _ _)) (block_new N4.d _ _) (by decide) (by decide)).mono ?_
  rintro e w16 ⟨rfl, r16, hD16, hO16, hr16⟩
  have N5 := (N4.alloc _).step hD16 hO16 hr16
  clear hD16 hO16 hr16 N4
  go_wp2_with fail
  go_ret
  exact ⟨rfl, N5.bel⟩
end Go.Proofs.Ytbgjahgmkbbgjaa
