/- Clear: walked. -/
import Derived.Test.YthipfcmjpgbemaaSj
import Derived.Test.YthipfcmjpgbemaaFc
namespace Go.Proofs.Ythipfcmjpgbemaa
open Go.RowKit

def clr (L : Ln) : Ln := { L with Q := cleared L.Q }
def clrTo (c : Nat) (ls : List Ln) : List Ln := (ls.take c).map clr ++ ls.drop c
theorem clrTo_zero (ls : List Ln) : clrTo 0 ls = ls := by simp [clrTo]
theorem clrTo_all (ls : List Ln) : clrTo ls.length ls = ls.map clr := by simp [clrTo]
theorem clrTo_len (c : Nat) (ls : List Ln) : (clrTo c ls).length = ls.length := by
  simp [clrTo, List.length_take, List.length_drop]
  omega
theorem clrTo_at {c : Nat} {ls : List Ln} {L : Ln} (h : ls[c]? = some L) : (clrTo c ls)[c]? = some L := by
  have hc := (List.getElem?_eq_some_iff.1 h).1
  unfold clrTo
  rw [List.getElem?_append_right (by simp; omega)]
  simp [List.length_take, Nat.min_eq_left (Nat.le_of_lt hc), h]
theorem clrTo_set {c : Nat} {ls : List Ln} {L : Ln} (h : ls[c]? = some L) : (clrTo c ls).set c (clr L) = clrTo (c + 1) ls := by
  have hc := (List.getElem?_eq_some_iff.1 h).1
  unfold clrTo
  rw [List.set_append_right _ _ (by simp; omega), List.take_add_one, h, Option.toList_some, List.map_append, List.append_assoc]
  congr 1
  rw [List.drop_eq_getElem_cons hc]
  rw [List.getElem?_eq_getElem hc] at h
  injection h with h
  simp [List.length_take, Nat.min_eq_left (Nat.le_of_lt hc), h]
theorem total_take {c : Nat} {ls : List Ln} {L : Ln} (h : ls[c]? = some L) : total (ls.take (c + 1)) = total (ls.take c) + L.Q.L.length := by
  rw [List.take_add_one, h, Option.toList_some]
  simp [total]

theorem total_le_all (ls : List Ln) (c : Nat) : total (ls.take c) ≤ total ls := by
  have h : total (ls.take c ++ ls.drop c) = total (ls.take c) + total (ls.drop c) := by unfold total; rw [List.map_append, List.sum_append]
  rw [List.take_append_drop] at h
  omega

theorem Clear_nil (w : World) : Calls Try.prog 25 #[.pointer none] w fun e w' => e = .returned (.int .i64 0) ∧ w' = w := by
  go_enter Try.func25, Try.ntmps25
  go_wp2_with fail
  go_ret
  exact ⟨rfl, rfl⟩

def CRel (W : World) (p : Nat) (O : Nat → Nat) (v : Value) (ps : List Nat) (S : Sh) (nv iv : Value) (w : World) : Prop :=
  ∃ c : Nat, ∃ O', iv = .int .i64 c ∧ c ≤ S.ls.length ∧ nv = .int .i64 (total (S.ls.take c)) ∧ IsS w p O' v ps ⟨S.tick, clrTo c S.ls⟩ ∧ Grow O O' W w
set_option maxRecDepth 100000 in
theorem Clear_is {w : World} {p n : Nat} {O : Nat → Nat} {v : Value} {ps : List Nat} {S : Sh} (h : IsS w p O v ps S) (hS : S.Ok n) :
    Calls Try.prog 25 #[ptr p] w fun e w' => e = .returned (.int .i64 (total S.ls)) ∧ ∃ O', IsS w' p O' v ps ⟨S.tick, S.ls.map clr⟩ ∧ Grow O O' w w' := by
  obtain ⟨va, vc, rfl⟩ := own_shape h.row
  have c1 := h.c1
  have H := Lib.hid (And.intro h hS)
  have hlen := hS.len
  clear h hS
  unfold ptr
  go_enter Try.func25, Try.ntmps25
  go_wp2_with fail
  go_loopw [2, 12] (CRel w p O (.slice va S.ls.length vc) ps S) (fun _ i _ => S.ls.length - (intOf i).toNat)
  case atStart => exact ⟨0, O, rfl, Nat.zero_le _, rfl, by rw [clrTo_zero]; exact H.out.1, Grow.below (Below.refl _ _)⟩
  case round =>
    obtain ⟨c, O', rfl, hc, rfl, hI, hG⟩ := hrel
    have htot : total S.ls ≤ 8000000 := H.out.2.total
    by_cases hlt : c < S.ls.length
    · obtain ⟨L, hL⟩ : ∃ L, S.ls[c]? = some L := ⟨_, List.getElem?_eq_getElem hlt⟩
      obtain ⟨lp, hlp⟩ : ∃ lp, ps[c]? = some lp := ⟨_, List.getElem?_eq_getElem (by rw [H.out.1.len]; exact hlt)⟩
      obtain ⟨bp, qp, r, hIL⟩ := hI.ln c L lp (clrTo_at hL) hlp
      obtain ⟨g, cap, hv, hcap, hcell⟩ := row_ptr hI.row hlp hI.len
      injection hv with hva hvl hvc
      clear hvl
      subst hva
      subst hvc
      have hcap : S.ls.length ≤ vc := by rw [show (clrTo c S.ls).length = S.ls.length from clrTo_len c S.ls] at hcap; exact hcap
      unfold ptr at hcell
      have hci : (c : Int) < (S.ls.length : Int) := by omega
      have c5 : wr.cell? ⟨lp, 5, none⟩ = some (.pointer (some ⟨qp, 0, none⟩)) := cell_of_block hIL.blk 5
      have HC := Lib.hid (clear_q hIL.q)
      have htk : total (S.ls.take (c + 1)) = total (S.ls.take c) + L.Q.L.length := total_take hL
      have ht2 : total (S.ls.take (c + 1)) ≤ 8000000 := Nat.le_trans (total_le_all S.ls (c + 1)) htot
      have HX := Lib.hid (And.intro hI (And.intro hG (And.intro hL (And.intro hlp hIL))))
      have hwr : IntKind.i64.wrap ((total (S.ls.take c) : Int) + (L.Q.L.length : Int)) = ((total (S.ls.take (c + 1)) : Nat) : Int) := by rw [IntWalk.i64_in _ (by omega), htk]; rfl
      clear hI hG hL hlp hIL htk htot
      go_wp2_with fail
      refine HC.out.mono ?_
      rintro e w2 ⟨rfl, hQ2, hO2⟩
      obtain ⟨hI, hG, hL, hlp, hIL⟩ := HX.out
      have hrl : ∀ k, O' k ≠ 5 + 3 * c → ¬ r k ≠ 0 := fun k hk h => hk (hIL.oq k h)
      obtain ⟨O2, h1, h2, -⟩ := hI.set (L' := clr L) (clrTo_at hL) hlp hIL (hO2.mono fun k _ h => .inr (.inr h)) (hO2.keep hIL.blk (hrl lp (by rw [hIL.ol]; omega))) (hO2.keep hIL.b (hrl bp (by rw [hIL.ob]; omega))) hQ2 (fun k hk => .inl hk)
      have HM : Hid (CRel w p O (.slice (some ⟨g, 0, none⟩) S.ls.length vc) ps S (.int .i64 ((total (S.ls.take (c + 1)) : Nat) : Int)) (.int .i64 (c + 1 : Nat)) w2) :=
        ⟨c + 1, O2, rfl, hlt, rfl, by rw [← clrTo_set hL]; exact h1, hG.trans h2⟩
      clear hI hG hL hlp hIL h1 h2 hQ2 hO2 hrl HX HC c5 hcell
      go_wp2_with fail
      go_roundw
      case rel => exact HM.out
      case measure => simp [intOf]; omega
    · obtain rfl : c = S.ls.length := by omega
      have HX := Lib.hid (And.intro hI hG)
      clear hI hG
      go_wp2_with fail
      go_ret
      exact ⟨by rw [List.take_length]; rfl, O', by rw [← clrTo_all]; exact HX.out.1, HX.out.2⟩
end Go.Proofs.Ythipfcmjpgbemaa
