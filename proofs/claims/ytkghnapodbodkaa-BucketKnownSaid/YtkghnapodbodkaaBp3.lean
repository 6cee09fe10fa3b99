/- BucketPlays, walked. -/
import Derived.Test.YtkghnapodbodkaaBp2
import Derived.Deep.DeepCutAuto
import Derived.Deep.RegionWith
namespace Go.Proofs.Ytkghnapodbodkaa
open Go.RowKit

/-- The block g is the reference's bucket B. -/
def IsR (w : World) (g : Nat) (B : Bk) : Prop := w.heap[g]? = some (.cells #[.int .u64 B.rate, .int .u64 B.burst, .int .u64 B.tick, .int .u64 B.tok] 34)

theorem IsR.lt {w : World} {p : Nat} {B : Bk} (h : IsR w p B) : p < w.heap.size := lt_of_obj h
theorem IsR.keep {w w' : World} {p : Nat} {B : Bk} {S : Nat → Prop} (h : IsR w p B) (hO : Only S w w') (hS : ¬ S p) : IsR w' p B := Only.keep hO h hS
theorem IsR.c0 {w : World} {g : Nat} {B : Bk} (h : IsR w g B) : w.cell? ⟨g, 0, none⟩ = some (.int .u64 B.rate) := cell_of_block h 0
theorem IsR.c1 {w : World} {g : Nat} {B : Bk} (h : IsR w g B) : w.cell? ⟨g, 1, none⟩ = some (.int .u64 B.burst) := cell_of_block h 1
theorem IsR.c2 {w : World} {g : Nat} {B : Bk} (h : IsR w g B) : w.cell? ⟨g, 2, none⟩ = some (.int .u64 B.tick) := cell_of_block h 2
theorem IsR.c3 {w : World} {g : Nat} {B : Bk} (h : IsR w g B) : w.cell? ⟨g, 3, none⟩ = some (.int .u64 B.tok) := cell_of_block h 3

theorem IsR.f {w : World} {g : Nat} {B : Bk} (h : IsR w g B) (i : Nat) : w.frozen? ⟨g, i, none⟩ = false := free_of_block h i
theorem IsR.alloc {w : World} {g : Nat} {B : Bk} (h : IsR w g B) (o : Obj) : IsR (w.alloc o) g B := (alloc_block_old _ h.lt).trans h
theorem IsB.alloc {w : World} {g : Nat} {B : Bk} (h : IsB w g B) (o : Obj) : IsB (w.alloc o) g B := (alloc_block_old _ h.lt).trans h
theorem IsR.all {w : World} {g : Nat} {B : Bk} (h : IsR w g B) : w.cell? ⟨g, 0, none⟩ = some (.int .u64 B.rate) ∧ w.cell? ⟨g, 1, none⟩ = some (.int .u64 B.burst) ∧ w.cell? ⟨g, 2, none⟩ = some (.int .u64 B.tick) ∧ w.cell? ⟨g, 3, none⟩ = some (.int .u64 B.tok) := ⟨h.c0, h.c1, h.c2, h.c3⟩

theorem IsR.set4 {w : World} {g : Nat} {B : Bk} (h : IsR w g B) (C : Bk) :
    Stored w ((((w.setCell ⟨g, 0, none⟩ (.int .u64 C.rate)).setCell ⟨g, 1, none⟩ (.int .u64 C.burst)).setCell ⟨g, 2, none⟩ (.int .u64 C.tick)).setCell ⟨g, 3, none⟩ (.int .u64 C.tok)) g #[.int .u64 C.rate, .int .u64 C.burst, .int .u64 C.tick, .int .u64 C.tok] 34 :=
  ⟨setCell_block (setCell_block (setCell_block (setCell_block h 0 _) 1 _) 2 _) 3 _,
    by refine Only.setCell (Only.setCell (Only.setCell (Only.setCell (Only.refl _ _) ?_ _) ?_ _) ?_ _) ?_ _ <;> intro _ <;> rfl, by simp [World.setCell]⟩

theorem copy_exp (p r b t k : Nat) (w : World) (hB : IsB w p ⟨r, b, t, k⟩) :
    Calls Try.prog 13 #[.pointer (some ⟨p, 0, none⟩)] w fun e w' =>
      e = .returned (.pointer (some ⟨w.heap.size, 0, none⟩)) ∧ w' = w.alloc (.cells #[.int .u64 r, .int .u64 b, .int .u64 t, .int .u64 k] 47) := copy_any p ⟨r, b, t, k⟩ w hB

/-- What holds behind the first statements: the bucket and the reference's, and a copy of each. -/
def PStart (W : World) (p g : Nat) (B : Bk) (f s : Value) (w : World) : Prop :=
  ∃ q h, f = .pointer (some ⟨q, 0, none⟩) ∧ s = .pointer (some ⟨h, 0, none⟩) ∧ W.heap.size ≤ q ∧ W.heap.size ≤ h ∧ p ≠ q ∧ p ≠ h ∧ g ≠ q ∧ g ≠ h ∧ q ≠ h ∧
    IsB w p B ∧ IsR w g B ∧ IsB w q B ∧ IsR w h B ∧ Below W.heap.size W w

/-- What holds at the head of a round. -/
def PRel (W : World) (p g q h0 : Nat) (B0 : Bk) (len : Nat) (i : Value) (wr : World) : Prop :=
  ∃ (k : Nat) (B : Bk), i = .int .i64 k ∧ k ≤ len ∧ B.Ok ∧ IsB wr p B ∧ IsR wr g B ∧ IsB wr q B0 ∧ IsR wr h0 B0 ∧ Below W.heap.size W wr

/-- Behind the act. -/
def PActed (W : World) (p g q h0 : Nat) (B0 : Bk) (s ok : Value) (wr : World) : Prop :=
  ∃ (g1 : Nat) (B C : Bk), s = .pointer (some ⟨g1, 0, none⟩) ∧ ok = .bool true ∧ C.Ok ∧ IsB wr p C ∧ IsR wr g B ∧ IsR wr g1 C ∧ IsB wr q B0 ∧ IsR wr h0 B0 ∧ g1 ≠ g ∧ Below W.heap.size W wr

/-- The worlds of the tests: what is there of the two buckets and of the copies. -/
def PSame (W : World) (p c g q h0 : Nat) (B0 C : Bk) (wr : World) : Prop :=
  IsB wr p C ∧ IsB wr c C ∧ IsR wr g C ∧ IsB wr q B0 ∧ IsR wr h0 B0 ∧ Below W.heap.size W wr

theorem PSame.one {W : World} {p c g q h0 : Nat} {B0 C : Bk} {w w' : World} (h : PSame W p c g q h0 B0 C w) (x : Nat) (hO : Only (· = x) w w') (hx : W.heap.size ≤ x) (hp : p ≠ x ∨ IsB w' p C) (hc : c ≠ x ∨ IsB w' c C) (hq : q ≠ x ∨ IsB w' q B0) (hg : g ≠ x) (hh : h0 ≠ x) :
    PSame W p c g q h0 B0 C w' :=
  ⟨hp.elim (fun e => h.1.keep hO e) id, hc.elim (fun e => h.2.1.keep hO e) id, h.2.2.1.keep hO hg, hq.elim (fun e => h.2.2.2.1.keep hO e) id, h.2.2.2.2.1.keep hO hh,
    h.2.2.2.2.2.trans (hO.below h.2.2.2.2.2.size (fun k hk e => by omega))⟩

theorem PSame.same {W : World} {p c g q h0 : Nat} {B0 C : Bk} {w w' : World} (h : PSame W p c g q h0 B0 C w) (hO : Only (fun _ => False) w w') : PSame W p c g q h0 B0 C w' :=
  ⟨h.1.keep hO (fun h => h), h.2.1.keep hO (fun h => h), h.2.2.1.keep hO (fun h => h), h.2.2.2.1.keep hO (fun h => h), h.2.2.2.2.1.keep hO (fun h => h), h.2.2.2.2.2.trans (hO.below h.2.2.2.2.2.size (fun _ _ h => h))⟩

theorem PSame.drew {W : World} {p c g q h0 : Nat} {B0 C : Bk} {w : World} (h : PSame W p c g q h0 B0 C w) : PSame W p c g q h0 B0 C w.drew := h.same (Only.refl _ _).drew

theorem plays_long (r b t : Int) (a3 : Option Addr) (len3 cap3 : Nat) (w : World) (h : 60 < len3) :
    Calls Try.prog 4 #[.int .u64 r, .int .u64 b, .int .u64 t, .slice a3 len3 cap3] w fun e w' => e = .returned (.bool true) ∧ Below w.heap.size w w' := by
  go_enter Try.func4, Try.ntmps4
  go_wp2_with (go_at_call 8; refine (works_any _).mono ?_; rintro e w' ⟨rfl, hO⟩)
  go_ret
  exact ⟨rfl, hO.below (Nat.le_refl _) (fun _ _ h => h)⟩

set_option maxRecDepth 100000 in
set_option maxHeartbeats 400000 in
theorem plays_some (r b t : Nat) (hr : r < 18446744073709551616) (hb : b < 18446744073709551616) (ht : t < 18446744073709551616) (b3 o3 len3 cap3 : Nat) (w : World) (h : len3 ≤ 60) (hb3 : b3 < w.heap.size)
    (hc : ∀ i, i < len3 → ∃ (d : Int) (t n : Nat), t < 18446744073709551616 ∧ w.cell? ⟨b3, o3 + i * 3, none⟩ = some (.int .i64 d) ∧ w.cell? ⟨b3, o3 + i * 3 + 1, none⟩ = some (.int .u64 t) ∧ w.cell? ⟨b3, o3 + i * 3 + 2, none⟩ = some (.int .u64 n)) :
    Calls Try.prog 4 #[.int .u64 r, .int .u64 b, .int .u64 t, .slice (some ⟨b3, o3, none⟩) len3 cap3] w fun e w' => e = .returned (.bool true) ∧ Below w.heap.size w w' := by
  have hk0 : (Bk.mk r b t b).Ok := ⟨hr, hb, ht, Nat.le_refl _⟩
  have HC := Lib.hid hc
  clear hr hb ht hc
  go_enter Try.func4, Try.ntmps4
  go_wp2_with fail
  refine (new_is r b t _).mono ?_
  rintro e w1 ⟨p, rfl, hp, hB1, hO1⟩
  go_wp2_with fail
  refine (rnew_any r b t _).mono ?_
  rintro e w2 ⟨rfl, hO2⟩
  have hB2 : IsB w2 p ⟨r, b, t, b⟩ := hB1.keep hO2 (fun h => h)
  have hBel : Below w.heap.size w w2 := (hO1.trans hO2).below (Nat.le_refl _) (fun _ _ h => h)
  clear hO1 hO2 hB1
  go_wp2_with fail
  have hR3 : IsR (w2.alloc (.cells #[.int .u64 r, .int .u64 b, .int .u64 t, .int .u64 b] 34)) w2.heap.size ⟨r, b, t, b⟩ := alloc_block_new w2 _
  have hB3 : IsB (w2.alloc (.cells #[.int .u64 r, .int .u64 b, .int .u64 t, .int .u64 b] 34)) p ⟨r, b, t, b⟩ := (alloc_block_old _ hB2.lt).trans hB2
  have hBel3 := hBel.alloc hBel.size (.cells #[.int .u64 r, .int .u64 b, .int .u64 t, .int .u64 b] 34)
  have hg : w.heap.size ≤ w2.heap.size := hBel.size
  have hpg : p < w2.heap.size := hB2.lt
  clear hBel hB2
  generalize w2.alloc (.cells #[.int .u64 r, .int .u64 b, .int .u64 t, .int .u64 b] 34) = w3 at *
  generalize w2.heap.size = g at *
  have c0 := hR3.c0
  have c1 := hR3.c1
  have c2 := hR3.c2
  have c3 := hR3.c3
  dsimp only at c0 c1 c2 c3
  go_cut [11, 12] (PStart w p g ⟨r, b, t, b⟩)
  case first =>
    go_region_held3 (fun w' => w'.cell? ⟨g, 0, none⟩ = some (.int .u64 r) ∧ w'.cell? ⟨g, 1, none⟩ = some (.int .u64 b) ∧ w'.cell? ⟨g, 2, none⟩ = some (.int .u64 t) ∧ w'.cell? ⟨g, 3, none⟩ = some (.int .u64 b)) (go_keep)
      (first | (go_at_call 13; refine (copy_exp p r b t b _ (by first | exact hB3 | exact hB3.alloc _)).mono ?_; rintro e w4 ⟨rfl, rfl⟩))
    all_goals clear c0 c1 c2 c3
    · go_wp2
      go_meet
      case rel =>
        refine ⟨w3.heap.size, w3.heap.size + 1, rfl, rfl, ?_, ?_, ?_, ?_, ?_, ?_, ?_, ?_, ?_, ?_, ?_, ?_⟩
        all_goals first
          | (have := hBel3.size; have := hB3.lt; have := hR3.lt; omega)
          | exact (hB3.alloc _).alloc _
          | exact (hR3.alloc _).alloc _
          | exact (alloc_block_old _ (by simp)).trans (alloc_block_new w3 _)
          | exact alloc_block_at _ _ (by simp)
          | exact ((hBel3.alloc hBel3.size _).alloc (by have := hBel3.size; simp; omega) _).drew
    · go_wp2
      go_meet
      case rel =>
        refine ⟨w3.heap.size + 1, w3.heap.size, rfl, rfl, ?_, ?_, ?_, ?_, ?_, ?_, ?_, ?_, ?_, ?_, ?_, ?_⟩
        all_goals first
          | (have := hBel3.size; have := hB3.lt; have := hR3.lt; omega)
          | exact (hB3.alloc _).alloc _
          | exact (hR3.alloc _).alloc _
          | exact (alloc_block_old _ (by simp)).trans (alloc_block_new w3 _)
          | exact alloc_block_at _ _ (by simp)
          | exact ((hBel3.alloc hBel3.size _).alloc (by have := hBel3.size; simp; omega) _).drew
  case rest =>
    obtain ⟨q, h0, rfl, rfl, hq, hh, hpq, hph, hgq, hgh, hqh, hB4, hR4, hQ4, hS4, hBel4⟩ := hcut
    clear hB3 hR3 hBel3 c0 c1 c2 c3
    have hpl : w.heap.size ≤ p := hp
    go_wp2_with fail
    go_loopw [13] (PRel w p g q h0 ⟨r, b, t, b⟩ len3) (fun i _ => 60 - (intOf i).toNat)
    case atStart => exact ⟨0, _, rfl, Nat.zero_le _, hk0, hB4, hR4, hQ4, hS4, hBel4⟩
    case round =>
      obtain ⟨k, B, rfl, hk, hok, hB, hR, hQ, hS, hBel⟩ := hrel
      clear hB4 hR4 hQ4 hS4 hBel4
      by_cases hlt : k < len3
      · obtain ⟨d, x, n, hx, a0, a1, a2⟩ := HC.out k hlt
        have A0 := Lib.hid a0
        have A1 := Lib.hid a1
        have A2 := Lib.hid a2
        rw [← hBel.cell (p := ⟨b3, o3 + k * 3, none⟩) hb3] at a0
        rw [← hBel.cell (p := ⟨b3, o3 + k * 3 + 1, none⟩) hb3] at a1
        rw [← hBel.cell (p := ⟨b3, o3 + k * 3 + 2, none⟩) hb3] at a2
        have c0 := hR.c0
        have c1 := hR.c1
        have c2 := hR.c2
        have c3 := hR.c3
        go_wp2_with fail
        go_cut [14, 15] (PActed w p g q h0 ⟨r, b, t, b⟩)
        case first =>
          have hg1 : ¬ wr.heap.size = g := by have := hR.lt; omega
          have hb1 : ¬ wr.heap.size = b3 := by have := hBel.size; omega
          have hk60 : (k : Int) < 60 := by omega
          have hk0' : (0 : Int) ≤ (k : Int) := by omega
          have hkl : (k : Int) < (len3 : Int) := by omega
          go_region_held3 (fun w' => (w'.cell? ⟨g, 0, none⟩ = some (.int .u64 B.rate) ∧ w'.cell? ⟨g, 1, none⟩ = some (.int .u64 B.burst) ∧ w'.cell? ⟨g, 2, none⟩ = some (.int .u64 B.tick) ∧ w'.cell? ⟨g, 3, none⟩ = some (.int .u64 B.tok)) ∧ w'.cell? ⟨b3, o3 + k * 3, none⟩ = some (.int .i64 d) ∧ w'.cell? ⟨b3, o3 + k * 3 + 1, none⟩ = some (.int .u64 x) ∧ w'.cell? ⟨b3, o3 + k * 3 + 2, none⟩ = some (.int .u64 n)) (go_keep)
            (first | (go_at_call 14; refine (does_any d p B x n _ (by first | exact hB | exact hB.alloc _) hok hx).mono ?_; rintro e w4 ⟨C, hC, rfl, hB4, hO4⟩
                      have hgp : ¬ g = p := by omega
                      have R4 : IsR w4 g B := hO4.keep (by first | exact hR | exact hR.alloc _) hgp
                      have Bl4 : Below w.heap.size w w4 := (by first | exact hBel.drew | exact (hBel.drew.alloc hBel.size _) : Below w.heap.size w _).trans (hO4.below (by first | exact hBel.size | (have := hBel.size; simp; omega)) (fun k hk e => by omega))
                      have c0' := R4.c0
                      have c1' := R4.c1
                      have c2' := R4.c2
                      have c3' := R4.c3
                      have a0' := (Bl4.cell (p := ⟨b3, o3 + k * 3, none⟩) hb3).trans A0.out
                      have a1' := (Bl4.cell (p := ⟨b3, o3 + k * 3 + 1, none⟩) hb3).trans A1.out
                      have a2' := (Bl4.cell (p := ⟨b3, o3 + k * 3 + 2, none⟩) hb3).trans A2.out
                      have hwb := hB.lt
                      try
                        have Z4 : IsR w4 wr.heap.size ⟨0, 0, 0, 0⟩ := hO4.keep (alloc_block_new wr _) (by omega)
                        have z0 : w4.cell? ⟨wr.heap.size, 0, none⟩ = some (.int .u64 0) := Z4.c0
                        have z1 : w4.cell? ⟨wr.heap.size, 1, none⟩ = some (.int .u64 0) := Z4.c1
                        have z2 : w4.cell? ⟨wr.heap.size, 2, none⟩ = some (.int .u64 0) := Z4.c2
                        have z3 : w4.cell? ⟨wr.heap.size, 3, none⟩ = some (.int .u64 0) := Z4.c3
                        have y0 := Z4.f 0
                        have y1 := Z4.f 1
                        have y2 := Z4.f 2
                        have y3 := Z4.f 3))
          · go_wp2
            go_meet
            case rel =>
              have hQ4 : IsB w4 q ⟨r, b, t, b⟩ := hO4.keep (by exact hQ) (by omega)
              have hS4 : IsR w4 h0 ⟨r, b, t, b⟩ := hO4.keep (by exact hS) (by omega)
              refine ⟨w4.heap.size, B, C, rfl, rfl, hC, hB4.alloc _, R4.alloc _, alloc_block_new w4 _, hQ4.alloc _, hS4.alloc _, ?_, Bl4.alloc Bl4.size _⟩
              have := R4.lt
              omega
          · go_wp2
            go_meet
            case rel =>
              have hst := Z4.set4 C
              have hQ4 : IsB w4 q ⟨r, b, t, b⟩ := hO4.keep (by exact hQ.alloc _) (by omega)
              have hS4 : IsR w4 h0 ⟨r, b, t, b⟩ := hO4.keep (by exact hS.alloc _) (by omega)
              have := hQ.lt
              have := hS.lt
              have := hB.lt
              have := hBel.size
              refine ⟨wr.heap.size, B, C, rfl, rfl, hC, hst.only.keep hB4 (by omega), hst.only.keep R4 (by omega), hst.blk, hst.only.keep hQ4 (by omega), hst.only.keep hS4 (by omega), hg1, Bl4.trans (hst.only.below Bl4.size (fun k hk e => by omega))⟩
        case rest =>
          obtain ⟨g1, B1, C, rfl, rfl, hC, hB4, hR4, hG4, hQ4, hS4, hgg, hBel4⟩ := hcut
          clear hB hR hQ hS hBel a0 a1 a2 A0 A1 A2 c0 c1 c2 c3 hx hok
          clear B d x n
          have e0 := hG4.c0
          have e1 := hG4.c1
          have e2 := hG4.c2
          have e3 := hG4.c3
          go_wp2_with (refine wpList_store_blk rfl 34 (.tmp 10) (.tmp 50) rfl g _ rfl rfl 34 _ hR4 (by kernel_rfl) rfl (by simp [Value.oneCell']) ?_)
          intro w5 hs5
          have hR5 : IsR w5 g C := hs5.blk
          have hB5 : IsB w5 p C := hs5.only.keep hB4 (by omega)
          have hQ5 : IsB w5 q ⟨r, b, t, b⟩ := hs5.only.keep hQ4 (by omega)
          have hS5 : IsR w5 h0 ⟨r, b, t, b⟩ := hs5.only.keep hS4 (by omega)
          have hBel5 : Below w.heap.size w w5 := hBel4.trans (hs5.only.below hBel4.size (fun k hk e => by omega))
          clear hB4 hR4 hG4 hQ4 hS4 hBel4 hs5 e0 e1 e2 e3 hgg
          go_wp2_with fail
          refine (copy_is p _ hB5).mono ?_
          rintro e w6 ⟨c, rfl, hc, hC6, hB6, hO6⟩
          have hcs : w.heap.size ≤ c := Nat.le_trans hBel5.size hc
          have hR6 := hR5.keep hO6 (fun h => h)
          have hQ6 := hQ5.keep hO6 (fun h => h)
          have hS6 := hS5.keep hO6 (fun h => h)
          have hBel6 := hBel5.trans (hO6.below hBel5.size (fun _ _ h => h))
          have hcd : p ≠ c ∧ g ≠ c ∧ q ≠ c ∧ h0 ≠ c := by have := hB5.lt; have := hR5.lt; have := hQ5.lt; have := hS5.lt; omega
          have HP : Hid (PSame w p c g q h0 ⟨r, b, t, b⟩ C w6) := ⟨hB6, hC6, hR6, hQ6, hS6, hBel6⟩
          clear hB5 hR5 hQ5 hS5 hBel5 hB6 hC6 hR6 hQ6 hS6 hBel6 hO6 hc
          go_wp2_with fail
          have k2 : ∀ x : Wld (PSame w p c g q h0 ⟨r, b, t, b⟩ C), x.w.cell? ⟨g, 2, none⟩ = some (.int .u64 C.tick) := fun x => x.ok.2.2.1.c2
          have k3 : ∀ x : Wld (PSame w p c g q h0 ⟨r, b, t, b⟩ C), x.w.cell? ⟨g, 3, none⟩ = some (.int .u64 C.tok) := fun x => x.ok.2.2.1.c3
          haveI hne : Nonempty (Wld (PSame w p c g q h0 ⟨r, b, t, b⟩ C)) := ⟨⟨_, HP.out⟩⟩
          refine region_class (PSame w p c g q h0 ⟨r, b, t, b⟩ C) (by kernel_rfl) (by kernel_rfl) HP.out.drew ?_
          repeat (go_big_quiet_step ((rename_i x; first
              | (go_at_call_of 15 (Value.pointer (some ⟨p, 0, none⟩)); exact (tick_is p _ x.ok.1 rfl).mono fun e w' ⟨he, hw⟩ => ⟨he, x, hw⟩)
              | (go_at_call_of 15 (Value.pointer (some ⟨c, 0, none⟩)); exact (tick_is c _ x.ok.2.1 rfl).mono fun e w' ⟨he, hw⟩ => ⟨he, x, hw⟩)
              | (go_at_call 11; exact (level_is c 0 _ x.ok.2.1 hC (by decide) (Bk.fill_le (Nat.zero_le _)) rfl).mono fun e w' ⟨he, hB, hO⟩ => ⟨he, ⟨w', x.ok.one c hO hcs (.inl hcd.1) (.inr hB) (.inl hcd.2.2.1) hcd.2.1 hcd.2.2.2⟩, rfl⟩))))
          refine wpQuiet_nil ?_
          intro w7 hP7
          clear k2 k3 hne HP
          have HP7 := Lib.hid hP7
          have c3 : w7.cell? ⟨g, 3, none⟩ = some (.int .u64 C.tok) := hP7.2.2.1.c3
          have hcan : C.can 0 C.tok = true := by rw [can_zero]; exact decide_eq_true (Nat.le_refl _)
          have hC0 : (C.less C.tok).Ok := ⟨hC.rate, hC.burst, hC.tick, by show C.tok - C.tok ≤ C.burst; omega⟩
          have htk : C.take 0 C.tok = C.less C.tok := by rw [Bk.take_yes (by rw [Bk.fill_le (Nat.zero_le _)]; exact Nat.le_refl _), Bk.fill_le (Nat.zero_le _)]
          have hl0 : (C.less C.tok).tok = 0 := Nat.sub_self _
          have HCAN := Lib.hid hcan
          have HTK := Lib.hid htk
          have HL0 := Lib.hid hl0
          clear hP7 hcan htk hl0
          go_wp2_with fail
          go_region_held3 (fun w' => w'.cell? ⟨g, 3, none⟩ = some (.int .u64 C.tok)) (go_keep)
            (first
              | (go_at_call 10; refine (take_is c 0 C.tok _ (by exact HP7.out.2.1) hC (by decide) HCAN.out HTK.out).mono ?_; rintro e w8 ⟨rfl, hB8, hO8⟩
                 have c3a : w8.cell? ⟨g, 3, none⟩ = some (.int .u64 C.tok) := (HP7.out.drew.2.2.1.keep hO8 hcd.2.1).c3)
              | (go_at_call_of 11 (Value.pointer (some ⟨c, 0, none⟩)); refine (level_is (n := 0) c 0 _ hB8 hC0 (by decide) (Bk.fill_le (Nat.zero_le _)) HL0.out).mono ?_; rintro e w9 ⟨rfl, hB9, hO9⟩
                 have c3b : w9.cell? ⟨g, 3, none⟩ = some (.int .u64 C.tok) := ((HP7.out.drew.2.2.1.keep hO8 hcd.2.1).keep hO9 hcd.2.1).c3)
              | (go_at_call_of 11 (Value.pointer (some ⟨p, 0, none⟩)); refine (level_is p 0 _ ((HP7.out.drew.1.keep hO8 hcd.1).keep hO9 hcd.1) hC (by decide) (Bk.fill_le (Nat.zero_le _)) rfl).mono ?_; rintro e w10 ⟨rfl, hB10, hO10⟩
                 have c3c : w10.cell? ⟨g, 3, none⟩ = some (.int .u64 C.tok) := (((HP7.out.drew.2.2.1.keep hO8 hcd.2.1).keep hO9 hcd.2.1).keep hO10 (by omega)).c3))
          have hd := HP7.out.drew
          have hrel : PRel w p g q h0 ⟨r, b, t, b⟩ len3 (.int .i64 (k + 1 : Nat)) w10 :=
            ⟨k + 1, C, rfl, by omega, hC, hB10, ((hd.2.2.1.keep hO8 hcd.2.1).keep hO9 hcd.2.1).keep hO10 (by omega), ((hd.2.2.2.1.keep hO8 hcd.2.2.1).keep hO9 hcd.2.2.1).keep hO10 (by omega),
              ((hd.2.2.2.2.1.keep hO8 hcd.2.2.2).keep hO9 hcd.2.2.2).keep hO10 (by omega), by
                have b7 := hd.2.2.2.2.2
                have b8 := b7.trans (hO8.below b7.size (fun k hk e => by omega))
                have b9 := b8.trans (hO9.below b8.size (fun k hk e => by omega))
                exact b9.trans (hO10.below b9.size (fun k hk e => by omega))⟩
          have HREL := Lib.hid hrel
          clear hrel hd c3 c3a c3b c3c hB8 hB9 hB10 hO8 hO9 hO10
          go_wp2
          exact ⟨HREL.out, by simp [intOf]; omega⟩
      · have hP : PSame w p p g q h0 ⟨r, b, t, b⟩ B wr := ⟨hB, hB, hR, hQ, hS, hBel⟩
        have HP := Lib.hid hP
        clear hP hB hR hQ hS hBel
        go_wp2_with fail
        have k2 : ∀ x : Wld (PSame w p p g q h0 ⟨r, b, t, b⟩ B), x.w.cell? ⟨h0, 2, none⟩ = some (.int .u64 t) := fun x => x.ok.2.2.2.2.1.c2
        have k3 : ∀ x : Wld (PSame w p p g q h0 ⟨r, b, t, b⟩ B), x.w.cell? ⟨h0, 3, none⟩ = some (.int .u64 b) := fun x => x.ok.2.2.2.2.1.c3
        haveI hne : Nonempty (Wld (PSame w p p g q h0 ⟨r, b, t, b⟩ B)) := ⟨⟨_, HP.out⟩⟩
        refine region_class (PSame w p p g q h0 ⟨r, b, t, b⟩ B) (by kernel_rfl) (by kernel_rfl) HP.out.drew ?_
        repeat (go_big_quiet_step ((rename_i x; first
            | (go_at_call 15; exact (tick_is q _ x.ok.2.2.2.1 rfl).mono fun e w' ⟨he, hw⟩ => ⟨he, x, hw⟩)
            | (go_at_call 8; exact (works_any _).mono fun e w' ⟨he, hO⟩ => ⟨he, ⟨w', x.ok.same hO⟩, rfl⟩)
            | (go_at_call 11; exact (level_is q 0 _ x.ok.2.2.2.1 hk0 (by decide) (Bk.fill_le (Nat.zero_le _)) rfl).mono fun e w' ⟨he, hB, hO⟩ => ⟨he, ⟨w', x.ok.one q hO hq (.inl hpq) (.inl hpq) (.inr hB) hgq (Ne.symm hqh)⟩, rfl⟩))))
        refine wpQuiet_nil ?_
        intro w7 hP7
        have HB7 := Lib.hid hP7.2.2.2.2.2
        clear k2 k3 hne HP hP7
        go_wp2
        go_ret
        exact ⟨rfl, HB7.out⟩
set_option maxRecDepth 100000 in
set_option maxHeartbeats 400000 in
theorem plays_none (r b t : Nat) (hr : r < 18446744073709551616) (hb : b < 18446744073709551616) (ht : t < 18446744073709551616) (a3 : Option Addr) (cap3 : Nat) (w : World) :
    Calls Try.prog 4 #[.int .u64 r, .int .u64 b, .int .u64 t, .slice a3 0 cap3] w fun e w' => e = .returned (.bool true) ∧ Below w.heap.size w w' := by
  have hk0 : (Bk.mk r b t b).Ok := ⟨hr, hb, ht, Nat.le_refl _⟩
  clear hr hb ht
  go_enter Try.func4, Try.ntmps4
  go_wp2_with fail
  refine (new_is r b t _).mono ?_
  rintro e w1 ⟨p, rfl, hp, hB1, hO1⟩
  go_wp2_with fail
  refine (rnew_any r b t _).mono ?_
  rintro e w2 ⟨rfl, hO2⟩
  have hB2 : IsB w2 p ⟨r, b, t, b⟩ := hB1.keep hO2 (fun h => h)
  have hBel : Below w.heap.size w w2 := (hO1.trans hO2).below (Nat.le_refl _) (fun _ _ h => h)
  clear hO1 hO2 hB1
  go_wp2_with fail
  have hR3 : IsR (w2.alloc (.cells #[.int .u64 r, .int .u64 b, .int .u64 t, .int .u64 b] 34)) w2.heap.size ⟨r, b, t, b⟩ := alloc_block_new w2 _
  have hB3 : IsB (w2.alloc (.cells #[.int .u64 r, .int .u64 b, .int .u64 t, .int .u64 b] 34)) p ⟨r, b, t, b⟩ := (alloc_block_old _ hB2.lt).trans hB2
  have hBel3 := hBel.alloc hBel.size (.cells #[.int .u64 r, .int .u64 b, .int .u64 t, .int .u64 b] 34)
  have hg : w.heap.size ≤ w2.heap.size := hBel.size
  have hpg : p < w2.heap.size := hB2.lt
  clear hBel hB2
  generalize w2.alloc (.cells #[.int .u64 r, .int .u64 b, .int .u64 t, .int .u64 b] 34) = w3 at *
  generalize w2.heap.size = g at *
  have c0 := hR3.c0
  have c1 := hR3.c1
  have c2 := hR3.c2
  have c3 := hR3.c3
  dsimp only at c0 c1 c2 c3
  go_cut [11, 12] (PStart w p g ⟨r, b, t, b⟩)
  case first =>
    go_region_held3 (fun w' => w'.cell? ⟨g, 0, none⟩ = some (.int .u64 r) ∧ w'.cell? ⟨g, 1, none⟩ = some (.int .u64 b) ∧ w'.cell? ⟨g, 2, none⟩ = some (.int .u64 t) ∧ w'.cell? ⟨g, 3, none⟩ = some (.int .u64 b)) (go_keep)
      (first | (go_at_call 13; refine (copy_exp p r b t b _ (by first | exact hB3 | exact hB3.alloc _)).mono ?_; rintro e w4 ⟨rfl, rfl⟩))
    all_goals clear c0 c1 c2 c3
    · go_wp2
      go_meet
      case rel =>
        refine ⟨w3.heap.size, w3.heap.size + 1, rfl, rfl, ?_, ?_, ?_, ?_, ?_, ?_, ?_, ?_, ?_, ?_, ?_, ?_⟩
        all_goals first
          | (have := hBel3.size; have := hB3.lt; have := hR3.lt; omega)
          | exact (hB3.alloc _).alloc _
          | exact (hR3.alloc _).alloc _
          | exact (alloc_block_old _ (by simp)).trans (alloc_block_new w3 _)
          | exact alloc_block_at _ _ (by simp)
          | exact ((hBel3.alloc hBel3.size _).alloc (by have := hBel3.size; simp; omega) _).drew
    · go_wp2
      go_meet
      case rel =>
        refine ⟨w3.heap.size + 1, w3.heap.size, rfl, rfl, ?_, ?_, ?_, ?_, ?_, ?_, ?_, ?_, ?_, ?_, ?_, ?_⟩
        all_goals first
          | (have := hBel3.size; have := hB3.lt; have := hR3.lt; omega)
          | exact (hB3.alloc _).alloc _
          | exact (hR3.alloc _).alloc _
          | exact (alloc_block_old _ (by simp)).trans (alloc_block_new w3 _)
          | exact alloc_block_at _ _ (by simp)
          | exact ((hBel3.alloc hBel3.size _).alloc (by have := hBel3.size; simp; omega) _).drew
  case rest =>
    obtain ⟨q, h0, rfl, rfl, hq, hh, hpq, hph, hgq, hgh, hqh, hB4, hR4, hQ4, hS4, hBel4⟩ := hcut
    clear hB3 hR3 hBel3 c0 c1 c2 c3
    have hP : PSame w p p g q h0 ⟨r, b, t, b⟩ ⟨r, b, t, b⟩ _ := ⟨hB4, hB4, hR4, hQ4, hS4, hBel4⟩
    have HP := Lib.hid hP
    clear hP hB4 hR4 hQ4 hS4 hBel4
    go_wp2_with fail
    refine wp_loop_rounds 1 ?_
    rw [rounds_succ]
    go_wp2_with fail
    have k2 : ∀ x : Wld (PSame w p p g q h0 ⟨r, b, t, b⟩ ⟨r, b, t, b⟩), x.w.cell? ⟨h0, 2, none⟩ = some (.int .u64 t) := fun x => x.ok.2.2.2.2.1.c2
    have k3 : ∀ x : Wld (PSame w p p g q h0 ⟨r, b, t, b⟩ ⟨r, b, t, b⟩), x.w.cell? ⟨h0, 3, none⟩ = some (.int .u64 b) := fun x => x.ok.2.2.2.2.1.c3
    haveI hne : Nonempty (Wld (PSame w p p g q h0 ⟨r, b, t, b⟩ ⟨r, b, t, b⟩)) := ⟨⟨_, HP.out⟩⟩
    refine region_class (PSame w p p g q h0 ⟨r, b, t, b⟩ ⟨r, b, t, b⟩) (by kernel_rfl) (by kernel_rfl) HP.out.drew ?_
    repeat (go_big_quiet_step ((rename_i x; first
        | (go_at_call 15; exact (tick_is q _ x.ok.2.2.2.1 rfl).mono fun e w' ⟨he, hw⟩ => ⟨he, x, hw⟩)
        | (go_at_call 8; exact (works_any _).mono fun e w' ⟨he, hO⟩ => ⟨he, ⟨w', x.ok.same hO⟩, rfl⟩)
        | (go_at_call 11; exact (level_is q 0 _ x.ok.2.2.2.1 hk0 (by decide) (Bk.fill_le (Nat.zero_le _)) rfl).mono fun e w' ⟨he, hB, hO⟩ => ⟨he, ⟨w', x.ok.one q hO hq (.inl hpq) (.inl hpq) (.inr hB) hgq (Ne.symm hqh)⟩, rfl⟩))))
    refine wpQuiet_nil ?_
    intro w7 hP7
    have HB7 := Lib.hid hP7.2.2.2.2.2
    clear k2 k3 hne HP hP7
    go_wp2
    go_ret
    exact ⟨rfl, HB7.out⟩

/-- The acts of a slice that came in. -/
def IsActs (w : World) (a : Option Addr) (len : Nat) : Prop :=
  len = 0 ∨ ∃ b3 o3, a = some ⟨b3, o3, none⟩ ∧ b3 < w.heap.size ∧ ∀ i, i < len → ∃ (d : Int) (t n : Nat), t < 18446744073709551616 ∧ w.cell? ⟨b3, o3 + i * 3, none⟩ = some (.int .i64 d) ∧ w.cell? ⟨b3, o3 + i * 3 + 1, none⟩ = some (.int .u64 t) ∧ w.cell? ⟨b3, o3 + i * 3 + 2, none⟩ = some (.int .u64 n)

theorem plays_any (r b t : Int) (wr : (Lit.int .u64 r).wf = true) (wb : (Lit.int .u64 b).wf = true) (wt : (Lit.int .u64 t).wf = true) (a3 : Option Addr) (len3 cap3 : Nat) (w : World) (hl : IsActs w a3 len3) :
    Calls Try.prog 4 #[.int .u64 r, .int .u64 b, .int .u64 t, .slice a3 len3 cap3] w fun e w' => e = .returned (.bool true) ∧ Below w.heap.size w w' := by
  have br := bounds_u64 wr
  have bb := bounds_u64 wb
  have bt := bounds_u64 wt
  obtain ⟨r, rfl⟩ := Int.eq_ofNat_of_zero_le br.1
  obtain ⟨b, rfl⟩ := Int.eq_ofNat_of_zero_le bb.1
  obtain ⟨t, rfl⟩ := Int.eq_ofNat_of_zero_le bt.1
  by_cases h : 60 < len3
  · exact plays_long _ _ _ a3 len3 cap3 w h
  · rcases hl with rfl | ⟨b3, o3, rfl, hb3, hc⟩
    · exact plays_none r b t (by omega) (by omega) (by omega) a3 cap3 w
    · exact plays_some r b t (by omega) (by omega) (by omega) b3 o3 len3 cap3 w (by omega) hb3 hc
end Go.Proofs.Ytkghnapodbodkaa
