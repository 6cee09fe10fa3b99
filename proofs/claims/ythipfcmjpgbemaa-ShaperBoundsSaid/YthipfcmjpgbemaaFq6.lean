/- Push, walked. -/
import Derived.Test.YthipfcmjpgbemaaFq5
import Derived.Deep.DeepCutAuto
import Derived.Deep.RegionHeld3
import Derived.Deep.RegionWith
namespace Go.Proofs.Ythipfcmjpgbemaa
open Go.RowKit

theorem Holds8.lt {w : World} {v : Value} {zs : List Nat} (h : Holds8 w v zs) (h0 : 0 < zs.length) : ∀ k, v.ownBlock = some k → k < w.heap.size := by
  intro k hk
  obtain ⟨ao, cap, rfl, _, _, h3, _⟩ := h
  cases ao with
  | none => cases hk
  | some x => injection hk with hk; subst hk; exact h3 h0 x rfl
theorem holds_only {w w' : World} {v : Value} {zs : List Nat} {S : Nat → Prop} (h : Holds8 w v zs) (hO : Only S w w') (hS : 0 < zs.length → ∀ k, v.ownBlock = some k → ¬ S k) : Holds8 w' v zs := by
  by_cases h0 : 0 < zs.length
  · exact h.keep hO.size (fun k hk => hO.block k (h.lt h0 k hk) (hS h0 k hk))
  · obtain ⟨ao, cap, e, h1, h2, _, _⟩ := h
    exact ⟨ao, cap, e, h1, h2, fun h => absurd h h0, fun h => absurd h h0⟩

theorem push_nil (no sz : Int) (y : Value) (w : World) :
    Calls Try.prog 29 #[.pointer none, .agg #[.int .u64 no, .int .i64 sz, y]] w fun e w' => e = .returned (.int .i64 1) ∧ Below w.heap.size w w' := by
  go_enter Try.func29, Try.ntmps29
  go_wp2_with fail
  go_ret
  exact ⟨rfl, (Below.refl _ _).alloc (Nat.le_refl _) _⟩

theorem push_neg (p : Nat) (no sz : Int) (ya : Option Addr) (yl yc : Nat) (h : sz < 0) (w : World) :
    Calls Try.prog 29 #[.pointer (some ⟨p, 0, none⟩), .agg #[.int .u64 no, .int .i64 sz, .slice ya yl yc]] w fun e w' => e = .returned (.int .i64 2) ∧ Below w.heap.size w w' := by
  go_enter Try.func29, Try.ntmps29
  go_wp2_with fail
  go_ret
  exact ⟨rfl, (Below.refl _ _).alloc (Nat.le_refl _) _⟩

theorem IsQ.drop {w w' : World} {p : Nat} {r : Nat → Nat} {Q : QS} {rv : Value} {f n : Nat} {xs : List Value} (h : IsQ w p r Q rv f n xs) (d : Nat) (hO : Only (· = p) w w')
    (hb : w'.heap[p]? = some (.cells #[rv, .int .i64 f, .int .i64 Q.L.length, .int .i64 (sumQ Q.L), .int .i64 Q.items, .int .i64 Q.bound, .int .u64 d] 120 (0, 0))) : IsQ w' p r { Q with drops := d } rv f n xs := by
  have hS : ∀ k, r k ≠ 1 → ¬ k = p := fun k hk e => hk (by rw [e, h.rp])
  exact ⟨hb, own_only h.ring hO (fun k hk => hS k (by rw [h.rr k hk]; decide)), h.rc.keep hO (fun k hk => hS k (by rw [hk]; decide)), h.from_, h.room, h.cap, h.few, h.items, h.sum, h.bound, h.data, h.rp, h.rr, fun k hk => Nat.lt_of_lt_of_le (h.lt k hk) hO.size⟩

set_option maxRecDepth 100000 in
theorem push_full (no : Int) (sz : Int) (ya : Option Addr) (yl yc : Nat) (h0 : 0 ≤ sz) {w : World} {p : Nat} {r : Nat → Nat} {Q : QS} {rv : Value} {f n : Nat} {xs : List Value} (hQ : IsQ w p r Q rv f n xs) (hr : roomB Q sz = false) (hd : Q.drops ≤ 1000000) :
    Calls Try.prog 29 #[.pointer (some ⟨p, 0, none⟩), .agg #[.int .u64 no, .int .i64 sz, .slice ya yl yc]] w fun e w' => e = .returned (.int .i64 110) ∧ IsQ w' p r { Q with drops := Q.drops + 1 } rv f n xs ∧ Only (fun k => r k ≠ 0) w w' := by
  have hp := lt_of_obj hQ.blk
  have HQ := Lib.hid hQ
  have HR := Lib.hid hr
  clear hQ hr
  have hne : ¬ p = w.heap.size := by omega
  have hne' : ¬ w.heap.size = p := by omega
  go_enter Try.func29, Try.ntmps29
  go_wp2_with fail
  have hA : Below w.heap.size w (w.alloc (.cells #[.int .u64 no, .int .i64 sz, .slice ya yl yc] 34)) := (Below.refl _ _).alloc (Nat.le_refl _) _
  refine (room_is sz (HQ.out.below hA)).mono ?_
  rintro e w1 ⟨rfl, nd, rfl⟩
  rw [HR.out]
  have hQ1 := (HQ.out.below hA).below (below_drewN (Below.refl _ _) nd)
  have hB1 := hA.trans ((below_drewN (Below.refl _ _) nd).mono hA.size)
  generalize (w.alloc (.cells #[.int .u64 no, .int .i64 sz, .slice ya yl yc] 34)).drewN nd = w1 at *
  have c6 := hQ1.c6
  have f6 := hQ1.fr 6
  have HQ1 := Lib.hid hQ1
  have HB1 := Lib.hid hB1
  clear hQ1 hB1 hA hne hne'
  have i2 : (Q.drops : Int) < 18446744073709551615 := by omega
  go_wp2_with fail
  go_ret
  have hb := setCell_block HQ1.out.blk 6 (.int .u64 ((Q.drops + 1 : Nat) : Int))
  have hO : Only (· = p) w1 (w1.setCell ⟨p, 6, none⟩ (.int .u64 ((Q.drops + 1 : Nat) : Int))) := Only.setCell (p := ⟨p, 6, none⟩) (Only.refl (· = p) w1) (fun _ => rfl) _
  exact ⟨rfl, HQ1.out.drop (Q.drops + 1) hO hb, (Below.only HB1.out _).trans (hO.mono (fun k _ e => by rw [e, HQ.out.rp]; decide))⟩
end Go.Proofs.Ythipfcmjpgbemaa
