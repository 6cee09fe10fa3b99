/- Same of the document's disks, and SameDisk, walked. -/
import Derived.Test.YtbgjahgmkbbgjaaDr5
namespace Go.Proofs.Ytbgjahgmkbbgjaa
open Go.RowKit

/-- Ahead of each round of Same. -/
def SRel2 (w1 : World) (L M : List (Nat × List Nat)) (i : Value) (wr : World) : Prop :=
  ∃ k : Nat, i = .int .i64 k ∧ k ≤ L.length ∧ Below w1.heap.size w1 wr ∧ ∀ (j a b : Nat) (d e : List Nat), j < k → L[j]? = some (a, d) → M[j]? = some (b, e) → eqW a b d e = true

set_option maxRecDepth 100000 in
set_option maxHeartbeats 2000000 in
theorem rsame_is (dur dur' : List Nat) {w : World} {B C : Nat} {v u : Value} {L M : List (Nat × List Nat)} (hv : RW w B v L) (hu : RW w C u M) (hl : L.length ≤ 1000000) :
    Calls Try.prog 42 #[rd dur v, rd dur' u] w fun x w' => x = .returned (.bool (eqS dur dur' && eqL L M)) ∧ Below w.heap.size w w' := by
  obtain ⟨va, vc, rfl⟩ := hv.shape
  obtain ⟨ua, uc, rfl⟩ := hu.shape
  have hB : Below w.heap.size w ((w.alloc (.cells #[.string (str8 dur), .slice va L.length vc] 66)).alloc (.cells #[.string (str8 dur'), .slice ua M.length uc] 66)) := ((Below.refl _ _).alloc (Nat.le_refl _) _).alloc (by simp) _
  have hg0 : ((w.alloc (.cells #[.string (str8 dur), .slice va L.length vc] 66)).alloc (.cells #[.string (str8 dur'), .slice ua M.length uc] 66)).heap[w.heap.size]? = some (.cells #[.string (str8 dur), .slice va L.length vc] 66 (0, 0)) := (alloc_block_old _ (by simp)).trans (alloc_block_new w _)
  have hg1 : ((w.alloc (.cells #[.string (str8 dur), .slice va L.length vc] 66)).alloc (.cells #[.string (str8 dur'), .slice ua M.length uc] 66)).heap[w.heap.size + 1]? = some (.cells #[.string (str8 dur'), .slice ua M.length uc] 66 (0, 0)) := alloc_block_at _ _ (by simp)
  have HV := Lib.hid (hv.below hB)
  have HU := Lib.hid (hu.below hB)
  have H := Lib.hid (And.intro hB (And.intro hg0 hg1))
  unfold rd
  clear hv hu hB hg0 hg1
  cases hs : eqS dur dur' with
  | false =>
    unfold eqS at hs
    have HB := Lib.hid H.out.1
    generalize str8 dur = s at *
    generalize str8 dur' = t at *
    clear HV HU H
    go_enter Try.func42, Try.ntmps42
    go_wp2_with fail
    go_ret
    exact ⟨rfl, HB.out⟩
  | true =>
    unfold eqS at hs
    generalize str8 dur = s at *
    generalize str8 dur' = t at *
    by_cases hn : L.length = M.length
    · have HN := Lib.hid hn
      have hnn : ((L.length : Int) != (M.length : Int)) = false := by rw [hn]; simp
      clear hn
      go_enter Try.func42, Try.ntmps42
      go_wp2_with fail
      generalize (w.alloc (.cells #[.string s, .slice va L.length vc] 66)).alloc (.cells #[.string t, .slice ua M.length uc] 66) = w1 at *
      clear hs hnn
      obtain ⟨g0, eg0⟩ : ∃ t, w.heap.size = t := ⟨_, rfl⟩
      obtain ⟨g1, eg1⟩ : ∃ t, g0 + 1 = t := ⟨_, rfl⟩
      rw [eg0] at H ⊢
      rw [eg1] at H ⊢
      have HB0 : Hid (Below w.heap.size w w1) := by rw [eg0]; exact H.out.1
      clear eg0 eg1
      go_loopw [5] (SRel2 w1 L M) (fun i _ => L.length - (intOf i).toNat)
      case atStart => exact ⟨0, rfl, Nat.zero_le _, Below.refl _ _, fun j a b d e h => absurd h (by omega)⟩
      case round =>
        obtain ⟨k, rfl, hk, hB, hall⟩ := hrel
        have HAL := Lib.hid hall
        have HB := Lib.hid hB
        have hgr0 := (hB.block g0 (lt_of_obj H.out.2.1)).trans H.out.2.1
        have hgr1 := (hB.block g1 (lt_of_obj H.out.2.2)).trans H.out.2.2
        have q0 : wr.cell? ⟨g0, 1, none⟩ = some (.slice va L.length vc) := cell_of_block hgr0 1
        have q1 : wr.cell? ⟨g1, 1, none⟩ = some (.slice ua M.length uc) := cell_of_block hgr1 1
        clear hall hgr0 hgr1
        by_cases hlt : k < L.length
        · obtain ⟨⟨a, d⟩, hx⟩ : ∃ x, L[k]? = some x := ⟨_, List.getElem?_eq_getElem hlt⟩
          obtain ⟨⟨b, e⟩, hz⟩ : ∃ x, M[k]? = some x := ⟨_, List.getElem?_eq_getElem (by rw [← HN.out]; exact hlt)⟩
          obtain ⟨vg, rfl, c0, c1⟩ := (HV.out.below hB).at hx
          obtain ⟨ug, rfl, d0, d1⟩ := (HU.out.below hB).at hz
          have HX := Lib.hid hx
          have HZ := Lib.hid hz
          have j0 : (0 : Int) ≤ (k : Int) := by omega
          have j1 : (k : Int) < (L.length : Int) := by omega
          have j2 : (k : Int) < (M.length : Int) := by have := HN.out; omega
          have hkm : k < M.length := by omega
          clear hx hz hB
          cases hq : eqW a b d e with
          | false =>
            have HE := Lib.hid (eqL_no L M k a b d e HX.out HZ.out hq)
            unfold eqW eqS at hq
            generalize str8 d = sd at *
            generalize str8 e = se at *
            by_cases hab : ((a : Int) == (b : Int)) = true
            · have hse : (sd.toList == se.toList) = false := by rw [hab] at hq; simpa using hq
              clear hq
              go_wp2_with fail
              go_quiet (fail)
              clear c0 c1 d0 d1 q0 q1 hse hab
              go_wp2_with fail
              go_ret
              exact ⟨ret_bool (by rw [HE.out]; rfl), HB0.out.trans ((HB.out.trans ((below_drewN (Below.refl _ _) _).mono HB.out.size)).mono HB0.out.size)⟩
            · have hab' : ((a : Int) == (b : Int)) = false := by simpa using hab
              clear hq hab
              go_wp2_with fail
              go_quiet (fail)
              clear c0 c1 d0 d1 q0 q1 hab'
              go_wp2_with fail
              go_ret
              exact ⟨ret_bool (by rw [HE.out]; rfl), HB0.out.trans ((HB.out.trans ((below_drewN (Below.refl _ _) _).mono HB.out.size)).mono HB0.out.size)⟩
          | true =>
            have hREL : SRel2 w1 L M (.int .i64 (k + 1 : Nat)) wr := by
              refine ⟨k + 1, rfl, by omega, HB.out, fun j a' b' d' e' hj h1 h2 => ?_⟩
              by_cases hjk : j < k
              · exact HAL.out j a' b' d' e' hjk h1 h2
              · obtain rfl : j = k := by omega
                rw [HX.out] at h1
                rw [HZ.out] at h2
                injection h1 with h1
                injection h2 with h2
                injection h1 with h3 h4
                injection h2 with h5 h6
                subst h3 h4 h5 h6
                exact hq
            have HREL : Hid (∀ n, SRel2 w1 L M (.int .i64 (k + 1 : Nat)) (wr.drewN n)) := fun n => by
              obtain ⟨k', e1, e2, e3, e4⟩ := hREL
              exact ⟨k', e1, e2, e3.trans ((below_drewN (Below.refl _ _) _).mono e3.size), e4⟩
            unfold eqW eqS at hq
            have hab : ((a : Int) == (b : Int)) = true := by
              cases hh : ((a : Int) == (b : Int)) with
              | false => rw [hh] at hq; simp at hq
              | true => rfl
            have hse : ((str8 d).toList == (str8 e).toList) = true := by rw [hab] at hq; simpa using hq
            clear hq hREL
            generalize str8 d = sd at *
            generalize str8 e = se at *
            go_wp2_with fail
            go_quiet (fail)
            clear c0 c1 d0 d1 q0 q1 hse hab
            go_wp2_with fail
            go_roundw
            case rel => first | exact HREL.out _ | ((repeat apply Exists.intro); exact ⟨HREL.out _, rfl⟩)
            case measure => simp [intOf]; omega
        · have HE := Lib.hid (eqL_yes L M HN.out (fun j a b d e h1 h2 => HAL.out j a b d e (by have := (List.getElem?_eq_some_iff.1 h1).1; omega) h1 h2))
          clear hB
          go_wp2_with fail
          go_ret
          exact ⟨ret_bool (by rw [HE.out]; rfl), HB0.out.trans (HB.out.mono HB0.out.size)⟩
    · have HE := Lib.hid (eqL_len L M hn)
      have hnn : ((L.length : Int) != (M.length : Int)) = true := by simp; omega
      have HB := Lib.hid H.out.1
      clear HV HU H hn
      go_enter Try.func42, Try.ntmps42
      go_wp2_with fail
      go_ret
      exact ⟨ret_bool (by rw [HE.out]; rfl), HB.out⟩
end Go.Proofs.Ytbgjahgmkbbgjaa
