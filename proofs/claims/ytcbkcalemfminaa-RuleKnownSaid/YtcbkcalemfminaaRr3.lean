/- The reference's Cut: its plain law. -/
import Derived.Test.YtcbkcalemfminaaRr2
namespace Go.Proofs.Ytcbkcalemfminaa
open Go.RowKit

theorem mask_zero (j : Nat) : mask 0 j = 0 := by
  unfold mask
  rw [show min (0 - 8 * j) 8 = 0 by omega]
  rfl
theorem mask_same {i j : Nat} (h : j ≠ i / 8) : mask (i + 1) j = mask i j := by
  unfold mask
  rw [show min (i + 1 - 8 * j) 8 = min (i - 8 * j) 8 by omega]
theorem mask_at (i : Nat) : mask i (i / 8) = (65280 >>> (i % 8)) % 256 := by
  unfold mask
  rw [show min (i - 8 * (i / 8)) 8 = i % 8 by omega]
theorem mask_next (i : Nat) : mask (i + 1) (i / 8) = (65280 >>> (i % 8 + 1)) % 256 := by
  unfold mask
  rw [show min (i + 1 - 8 * (i / 8)) 8 = i % 8 + 1 by omega]
theorem byte_step {x r : Nat} (hx : x < 256) (hr : r < 8) : (x &&& (65280 >>> r) % 256) + x / 2 ^ (7 - r) % 2 * 2 ^ (7 - r) = x &&& (65280 >>> (r + 1)) % 256 := by
  have : ∀ x : Fin 256, ∀ r : Fin 8, (x.val &&& (65280 >>> r.val) % 256) + x.val / 2 ^ (7 - r.val) % 2 * 2 ^ (7 - r.val) = x.val &&& (65280 >>> (r.val + 1)) % 256 := by decide +kernel
  exact this ⟨x, hx⟩ ⟨r, hr⟩
theorem cutB_blank {bs : List Nat} : cutB bs 0 16 = List.replicate 16 0 := by
  unfold cutB
  rw [show List.replicate 16 0 = (List.range 16).map (fun _ => 0) from rfl]
  apply List.map_congr_left
  intro j hj
  rw [if_pos (List.mem_range.1 hj), mask_zero, Nat.and_zero]
theorem cutB_at {a : Ad} {i q : Nat} (hq : q < 16) : (cutB a.bs i 16)[q]? = some (a.bs.getD q 0 &&& mask i q) := by
  rw [cutB_get hq, if_pos hq]
theorem getD_lt {a : Ad} (ha : a.Ok) (q : Nat) : a.bs.getD q 0 < 256 := by
  by_cases h : q < a.bs.length
  · rw [List.getD_eq_getElem?_getD, List.getElem?_eq_getElem h]
    exact ha.2 _ (List.getElem_mem _)
  · rw [List.getD_eq_getElem?_getD, List.getElem?_eq_none (by omega)]
    decide
theorem dig_step {a : Ad} (ha : a.Ok) (i : Nat) : (a.bs.getD (i / 8) 0 &&& mask i (i / 8)) + dig a i * 2 ^ (7 - i % 8) = a.bs.getD (i / 8) 0 &&& mask (i + 1) (i / 8) := by
  rw [mask_at, mask_next]
  exact byte_step (getD_lt ha _) (by omega)
theorem cutB_step {a : Ad} (ha : a.Ok) {i : Nat} (hi : i < 128) : (cutB a.bs i 16).set (i / 8) ((a.bs.getD (i / 8) 0 &&& mask i (i / 8)) + dig a i * 2 ^ (7 - i % 8)) = cutB a.bs (i + 1) 16 := by
  rw [dig_step ha]
  apply List.ext_getElem?
  intro j
  by_cases hj : j < 16
  · rw [cutB_at hj, List.getElem?_set]
    by_cases e : i / 8 = j
    · subst e
      rw [if_pos rfl, if_pos (by rw [cutB_len]; exact hj)]
    · rw [if_neg e, cutB_at hj, mask_same (fun h => e h.symm)]
  · rw [List.getElem?_eq_none (by simp [cutB_len]; omega), List.getElem?_eq_none (by rw [cutB_len]; omega)]
end Go.Proofs.Ytcbkcalemfminaa
