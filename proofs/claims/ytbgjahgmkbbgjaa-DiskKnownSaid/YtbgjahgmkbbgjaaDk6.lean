/- Unsynced, walked. -/
import Derived.Test.YtbgjahgmkbbgjaaDk5
namespace Go.Proofs.Ytbgjahgmkbbgjaa
open Go.RowKit

theorem row_at {w : World} {e : TypeId} {v : Value} {n : Nat} {xs : List Value} (h : w.ownsRow 0 e 2 v n xs) (k : Nat) (hk : k < n) : ∃ g cap, v = .slice (some ⟨g, 0, none⟩) n cap ∧ g < w.heap.size ∧ ∀ j, j < n * 2 → w.cell? ⟨g, j, none⟩ = xs[j]? := by
  rcases h.2 with ⟨_, h0⟩ | ⟨g, cap, cur, hv, hg, hh, hnc, hcm, hcs, hx⟩
  · omega
  · refine ⟨g, cap, hv, lt_of_obj hh, fun j hj => ?_⟩
    rw [cell_of_block hh, ← hx, List.getElem?_take_of_lt hj]
    simp

theorem IsD.write_at {w : World} {p : Nat} {r : Nat → Nat} {D : DS} {dv nv uv : Value} {xs : List Value} (h : IsD w p r D dv nv uv xs) (k : Nat) (hk : k < D.uns.length) :
    ∃ g cap a d y, uv = .slice (some ⟨g, 0, none⟩) D.uns.length cap ∧ g < w.heap.size ∧ D.uns[k]? = some (a, d) ∧ w.cell? ⟨g, k * 2, none⟩ = some (.int .i64 (a : Nat)) ∧ w.cell? ⟨g, k * 2 + 1, none⟩ = some y ∧ Own8 w 0 y d ∧ (∀ j, y.ownBlock = some j → r j = 5) := by
  obtain ⟨g, cap, hv, hg, hc⟩ := row_at h.uns k hk
  obtain ⟨a, d, y, e1, e2, e3, e4, e5⟩ := h.wcs.get k hk
  have hxl := h.wcs.len
  exact ⟨g, cap, a, d, y, hv, hg, e1, (hc _ (by omega)).trans e2, (hc _ (by omega)).trans e3, e4, e5⟩

/-- Writes in new memory. -/
structure NewW (base : Nat) (w : World) (F : Nat → Prop) (v : Value) (xs : List Value) (l : List (Nat × List Nat)) : Prop where
  row : w.ownsRow 0 46 2 v l.length xs
  wcs : WCells w F xs l
  ge : ∀ j, F j → base ≤ j
  lt : ∀ j, F j → j < w.heap.size
  vge : ∀ j, v.ownBlock = some j → base ≤ j
  ne : ∀ j, v.ownBlock = some j → ¬ F j

theorem NewW.step {base : Nat} {w w4 w5 : World} {F : Nat → Prop} {v v2 y : Value} {xs : List Value} {l : List (Nat × List Nat)} (h : NewW base w F v xs l) (i : Nat) (d : List Nat) {o : Obj} {B : Nat} (hb : base ≤ w.heap.size)
    (hO : Own8 w4 B y d) (hBs : w.heap.size ≤ B) (hB : Below w.heap.size w w4) (hOW : w5.ownsRow 0 46 2 v2 (l.length + 1) (xs ++ [.int .i64 i, y])) (hG : (w4.alloc o).grownBy w5 v.ownBlock)
    (hBB : v2.ownBlock = v.ownBlock ∨ v2.ownBlock = some (w4.alloc o).heap.size) : NewW base w5 (fun j => F j ∨ y.ownBlock = some j) v2 (xs ++ [.int .i64 i, y]) (l ++ [(i, d)]) := by
  have hsz : (w4.alloc o).heap.size = w4.heap.size + 1 := by simp
  rw [hsz] at hBB
  have hOB : Only (fun k => v.ownBlock = some k) w w5 := ((Below.only hB _).alloc _).grown hG (fun k hk _ => hk)
  have gv := own_ge hO
  have lv := own_lt hO
  have hs4 := hB.size
  have hvl := own_lt h.row
  have hy5 : Own8 w5 0 y d := own_lower (own_only (own_only hO ((Only.refl (fun _ => False) w4).alloc o) (fun _ _ h => h)) ((Only.refl (fun k => v.ownBlock = some k) (w4.alloc o)).grown hG (fun k hk _ => hk)) (fun k hk e => by
    have := gv k hk; have := hvl k e; omega)) (Nat.zero_le _)
  refine ⟨by simpa using hOW, WCells.snoc hy5 (fun k hk => .inr hk) ((h.wcs.keep hOB (fun k hk e => h.ne k e hk)).mono (fun k hk => .inl hk)), ?_, ?_, ?_, ?_⟩
  · rintro j (hj | hj)
    · exact h.ge j hj
    · have := gv j hj; omega
  · rintro j (hj | hj)
    · exact Nat.lt_of_lt_of_le (h.lt j hj) hOB.size
    · exact own_lt hy5 j hj
  · intro j hj
    rcases hBB with e | e
    · exact h.vge j (by rw [← e]; exact hj)
    · rw [e] at hj; injection hj with hj; omega
  · intro j hj hF
    rcases hF with hF | hF
    · rcases hBB with e | e
      · exact h.ne j (by rw [← e]; exact hj) hF
      · rw [e] at hj; injection hj with hj; have := h.lt j hF; omega
    · rcases hBB with e | e
      · have := hvl j (by rw [← e]; exact hj); have := gv j hF; omega
      · rw [e] at hj; injection hj with hj; have := lv j hF; omega

/-- At the head of a round of Unsynced's. -/
def URel (W : World) (l : List (Nat × List Nat)) (v i : Value) (wr : World) : Prop :=
  ∃ (k : Nat) (F : Nat → Prop) (xs : List Value), i = .int .i64 k ∧ k ≤ l.length ∧ NewW W.heap.size wr F v xs (l.take k) ∧ Below W.heap.size W wr

theorem unsynced_nil (w : World) :
    Calls Try.prog 16 #[.pointer none] w fun e w' => e = .returned (.slice none 0 0) ∧ w' = w := by
  go_enter Try.func16, Try.ntmps16
  go_wp2_with fail
  go_ret
  exact ⟨rfl, rfl⟩

set_option maxRecDepth 100000 in
theorem unsynced_is {w : World} {p : Nat} {r : Nat → Nat} {D : DS} {dv nv uv : Value} {xs : List Value} (h : IsD w p r D dv nv uv xs) (hu : D.uns.length ≤ 1000000) (hd : ∀ x ∈ D.uns, x.2.length ≤ 1000000) :
    Calls Try.prog 16 #[.pointer (some ⟨p, 0, none⟩)] w fun e w' => ∃ v F ys, e = .returned v ∧ NewW w.heap.size w' F v ys D.uns ∧ Below w.heap.size w w' := by
  obtain ⟨i0, hi, hz0, hz1, hz2⟩ := info_parts info_write
  obtain ⟨ua, uc, huv⟩ := own_shape h.uns
  have c2 := h.c2
  rw [huv] at c2
  have HU := Lib.hid h
  have HD := Lib.hid hd
  have HUV := Lib.hid huv
  clear h hd huv
  go_enter Try.func16, Try.ntmps16
  go_wp2_with fail
  go_loopw [2, 12] (URel w D.uns) (fun _ i _ => D.uns.length - (intOf i).toNat)
  case atStart => exact ⟨0, fun _ => False, [], rfl, Nat.zero_le _, ⟨World.ownsRow_nil _ _ _ _, trivial, fun _ h => h.elim, fun _ h => h.elim, fun _ h => (by cases h), fun _ _ h => h⟩, Below.refl _ _⟩
  case round =>
    obtain ⟨k, F, ys, rfl, hk, hN, hB⟩ := hrel
    by_cases hlt : k < D.uns.length
    · obtain ⟨g, cap, a, d, y, e0, hg, e1, k0, k1, hy, _⟩ := HU.out.write_at k hlt
      rw [← hB.cell (p := ⟨g, k * 2, none⟩) hg] at k0
      rw [← hB.cell (p := ⟨g, k * 2 + 1, none⟩) hg] at k1
      rw [HUV.out] at e0
      injection e0 with e0 _ e0'
      subst e0
      have hy2 : Holds8 wr y d := hy.holds.below hB
      obtain ⟨ya, yc, hyv⟩ := hy.shape
      have hN1 := Lib.hid hN
      have HB := Lib.hid hB
      rw [hyv] at hy2
      have HY := Lib.hid hy2
      have HE := Lib.hid e1
      have HDL := Lib.hid (HD.out (a, d) (List.mem_of_getElem? e1))
      have hrow := hN.row
      rw [hyv] at k1
      have HYV := Lib.hid hyv
      have HL := Lib.hid (show (D.uns.take k).length = k by simp; omega)
      clear hN hB hy hy2 e1 hyv hrow e0'
      go_wp2_with fail
      refine (copied_is a _ d _ (HY.out.below ((Below.refl _ _).alloc (Nat.le_refl _) _)) (by have := HDL.out; omega)).mono ?_
      rintro e w4 ⟨v, rfl, ho, hB4⟩
      have hB4' : Below wr.heap.size wr w4 := ((Below.refl _ _).alloc (Nat.le_refl _) _).trans (hB4.mono (by simp))
      have ho' : Own8 w4 wr.heap.size v d := own_lower ho (by simp)
      obtain ⟨av, cv, hav⟩ := ho.shape
      rw [hav]
      have HO := Lib.hid ho'
      have HB4 := Lib.hid hB4'
      have HAV := Lib.hid hav
      have HOW := Lib.hid (own_only hN1.out.row (Below.only hB4' (fun _ => False)) (fun _ _ h => h))
      clear ho hB4 hB4' ho' hav
      go_wp2_with (at_builtin; refine wpList_append_row _ rfl (.tmp 16) (.tmp 19) 40 rfl 46 i0 (.agg #[.int .i64 0, .slice none 0 0]) 2 32 Try.underlying40 hi hz0 hz1 hz2 rfl (by decide) _ _ ys rfl (own_only HOW.out ((Only.refl (fun _ => False) _).alloc _) (fun _ _ h => h)) ⟨w4.heap.size, 0, none⟩ 1 1 [.int .i64 a, .slice av d.length cv] rfl rfl (two_new _ _ _ _) (by intro u hu; simp at hu; rcases hu with rfl | rfl <;> rfl) (by have := HL.out; unfold maxLen; omega) (by have := HL.out; omega) ?_)
      intro v2 w5 hown hg5 hb5
      have hN2 := hN1.out.step a d (o := .cells #[.int .i64 a, .slice av d.length cv] 46) HB.out.size HO.out (Nat.le_refl _) HB4.out (by rw [HAV.out, HL.out]; exact hown) (by exact hg5) (by simpa using hb5)
      have ht : D.uns.take (k + 1) = D.uns.take k ++ [(a, d)] := by rw [List.take_add_one, HE.out]; rfl
      have hO5 : Only (fun j => u2.ownBlock = some j) wr w5 := ((Below.only HB4.out _).alloc _).grown hg5 (fun k hk _ => hk)
      have hB5 : Below w.heap.size w w5 := HB.out.trans (hO5.below HB.out.size (fun j hj e => by have := hN1.out.vge j e; omega))
      rw [← ht] at hN2
      have HREL : Hid (URel w D.uns v2 (.int .i64 (k + 1 : Nat)) w5) := ⟨k + 1, _, _, rfl, by omega, hN2, hB5⟩
      clear hN2 hO5 hB5 hown hg5 hb5 ht
      go_wp2_with fail
      go_roundw
      case rel => exact HREL.out
      case measure => simp [intOf]; omega
    · have hkn : k = D.uns.length := by omega
      rw [hkn, List.take_of_length_le (Nat.le_refl _)] at hN
      obtain ⟨va, vc, hv⟩ := own_shape hN.row
      have HN := Lib.hid hN
      have HB := Lib.hid hB
      clear hN hB hkn
      go_wp2_with fail
      go_ret
      exact ⟨_, _, _, rfl, HN.out, HB.out⟩
end Go.Proofs.Ytbgjahgmkbbgjaa
