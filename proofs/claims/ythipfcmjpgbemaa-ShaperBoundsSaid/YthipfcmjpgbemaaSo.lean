/- Nothing gets great: plain laws. -/
import Derived.Test.YthipfcmjpgbemaaSn
namespace Go.Proofs.Ythipfcmjpgbemaa
open Go.RowKit

theorem Sh.Ok.mono {S : Sh} {n m : Nat} (h : S.Ok n) (hnm : n ≤ m) (hm : m ≤ 1000000) : S.Ok m :=
  ⟨fun L hL => let k := h.ln L hL; ⟨Nat.le_trans k.off hnm, Nat.le_trans k.drp hnm, Nat.le_trans k.out hnm, k.byt, Nat.le_trans k.drops hnm, k.size, k.B⟩, hm, h.tick, h.len⟩
theorem Sh.Ok.set {S : Sh} {n c : Nat} {L : Ln} (h : S.Ok n) (hL : L.Ok n) : (Sh.mk S.tick (S.ls.set c L)).Ok n :=
  ⟨fun M hM => by
    rcases List.mem_or_eq_of_mem_set hM with h1 | rfl
    · exact h.ln M h1
    · exact hL, h.few, h.tick, by show (S.ls.set c L).length ≤ 8; rw [List.length_set]; exact h.len⟩
theorem pushA_L (Q : QS) (no : Nat) (sz : Int) (ds : List Nat) (h0 : 0 ≤ sz) : (pushA Q no sz ds).L = if roomB Q sz = true then Q.L ++ [⟨no, sz.toNat, ds⟩] else Q.L := by
  obtain ⟨m, rfl⟩ : ∃ m : Nat, sz = m := ⟨sz.toNat, by omega⟩
  unfold pushA
  rw [if_neg (by omega)]
  unfold pushR
  rw [Int.toNat_natCast]
  split <;> rfl
theorem offL_ok {L : Ln} {n : Nat} (h : L.Ok n) (no : Nat) {sz : Int} (ds : List Nat) (h0 : 0 ≤ sz) (h1 : sz ≤ 2048) : (offL L no sz ds).Ok (n + 1) := by
  have ho := h.off
  have hd := h.drp
  have hu := h.out
  have hp := h.drops
  have hL := pushA_L L.Q no sz ds h0
  refine ⟨by show L.off + 1 ≤ _; omega, ?_, ?_, h.byt, ?_, fun x hx => ?_, h.B⟩
  · show L.drp + _ ≤ _
    split <;> omega
  · show L.out + (pushA L.Q no sz ds).L.length ≤ _
    rw [hL]
    split
    · rw [List.length_append]; simp; omega
    · omega
  · show (pushA L.Q no sz ds).drops ≤ _
    unfold pushA
    split
    · omega
    · have := (pushR_bounds L.Q ⟨no, sz.toNat, ds⟩).2.2
      omega
  · have hx : x ∈ (pushA L.Q no sz ds).L := hx
    rw [hL] at hx
    split at hx
    · rcases List.mem_append.1 hx with h2 | h2
      · exact h.size x h2
      · simp at h2
        rw [h2]
        show sz.toNat ≤ 2048
        omega
    · exact h.size x hx
theorem Sh.Ok.offer {S : Sh} {n c : Nat} {L : Ln} (h : S.Ok n) (hc : S.ls[c]? = some L) (no : Nat) {sz : Int} (ds : List Nat) (h0 : 0 ≤ sz) (h1 : sz ≤ 2048) (hn : n + 1 ≤ 1000000) :
    (Sh.mk S.tick (S.ls.set c (offL L no sz ds))).Ok (n + 1) :=
  (h.mono (Nat.le_succ n) hn).set (offL_ok (h.ln L (List.mem_of_getElem? hc)) no ds h0 h1)
theorem relN_ok {n t : Nat} (ht : t < 18446744073709551616) : ∀ (m : Nat) (S : Sh) (o : List OutR), S.Ok n → (relN m t S o).1.Ok n
  | 0, S, o, h => ⟨h.ln, h.few, ht, h.len⟩
  | m + 1, S, o, h => by
    unfold relN
    cases hs : S.step t with
    | none => exact ⟨h.ln, h.few, ht, h.len⟩
    | some r =>
      obtain ⟨S', x⟩ := r
      exact relN_ok ht m S' _ (step_ok h hs)
theorem Sh.Ok.rel {S : Sh} {n t : Nat} (h : S.Ok n) (ht : t < 18446744073709551616) : (S.rel t).1.Ok n :=
  relN_ok (by have := h.tick; omega) _ S [] h
theorem clr_ok {L : Ln} {n : Nat} (h : L.Ok n) : (clr L).Ok n :=
  ⟨h.off, h.drp, by have := h.out; show L.out + 0 ≤ n; omega, h.byt, h.drops, fun x hx => (by cases hx), h.B⟩
theorem Sh.Ok.clear {S : Sh} {n : Nat} (h : S.Ok n) : (Sh.mk S.tick (S.ls.map clr)).Ok n :=
  ⟨fun M hM => by
    obtain ⟨L, hL, rfl⟩ := List.mem_map.1 hM
    exact clr_ok (h.ln L hL), h.few, h.tick, by show (S.ls.map clr).length ≤ 8; rw [List.length_map]; exact h.len⟩
theorem newLn_ok {c : Cl} (h : c.Ok) {t : Nat} (ht : t < 18446744073709551616) : (newLn c t).Ok 0 :=
  ⟨Nat.le_refl _, Nat.le_refl _, Nat.le_refl _, Nat.le_refl _, Nat.le_refl _, fun x hx => (by cases hx), ⟨h.rate, h.burst, ht, Nat.le_refl _⟩⟩
theorem newSh_ok {l : List Cl} (h : ∀ x ∈ l, x.Ok) (h8 : l.length ≤ 8) {t : Nat} (ht : t < 18446744073709551616) : (Sh.mk t (l.map (newLn · t))).Ok 0 :=
  ⟨fun M hM => by
    obtain ⟨L, hL, rfl⟩ := List.mem_map.1 hM
    exact newLn_ok (h L hL) ht, by omega, ht, by show (l.map (newLn · t)).length ≤ 8; rw [List.length_map]; exact h8⟩
end Go.Proofs.Ythipfcmjpgbemaa
