/- A line more. -/
import Derived.Test.YthipfcmjpgbemaaSk
namespace Go.Proofs.Ythipfcmjpgbemaa
open Go.RowKit

def pushO (O r : Nat → Nat) (lp bp c : Nat) (vb : Option Nat) (k : Nat) : Nat :=
  if k = lp then 3 + 3 * c else if k = bp then 4 + 3 * c else if r k ≠ 0 then 5 + 3 * c else if vb = some k then 2 else O k
theorem IsS.push {w w5 w6 : World} {p lp bp qp : Nat} {O r : Nat → Nat} {v v2 : Value} {ps : List Nat} {S : Sh} {L : Ln} (h : IsS w p O v ps S) (hB : Below w.heap.size w w5)
    (hlb : w5.heap[lp]? = some (.cells (L.cells bp qp) 88 (0, 0))) (hb : IsB w5 bp L.B) (hq : Que w5 qp r L.Q) (hgl : w.heap.size ≤ lp) (hgb : w.heap.size ≤ bp) (hgr : ∀ k, r k ≠ 0 → w.heap.size ≤ k) (hlb2 : lp ≠ bp) (hrl : r lp = 0) (hrb : r bp = 0)
    (hrow : w6.ownsRow 0 77 1 v2 (S.ls.length + 1) ((ps ++ [lp]).map ptr)) (hG : w5.grownBy w6 v.ownBlock) (hvv : v2.ownBlock = v.ownBlock ∨ v2.ownBlock = some w5.heap.size) :
    ∃ O', IsS (w6.setCell ⟨p, 1, none⟩ v2) p O' v2 (ps ++ [lp]) ⟨S.tick, S.ls ++ [L]⟩ ∧ Grow O O' w (w6.setCell ⟨p, 1, none⟩ v2) := by
  have h5 := h.below hB
  have hop := h.op
  have hO6 : Only (fun k => v.ownBlock = some k) w5 w6 := (Only.refl _ _).grown hG (fun k hk _ => hk)
  have hO7 : Only (· = p) w6 (w6.setCell ⟨p, 1, none⟩ v2) := Only.setCell (S := (· = p)) (p := ⟨p, 1, none⟩) (Only.refl _ _) (fun _ => rfl) _
  have hp := lt_of_obj h.blk
  have hO57 : Only (fun k => v.ownBlock = some k ∨ k = p) w5 (w6.setCell ⟨p, 1, none⟩ v2) := (hO6.mono fun k _ e => .inl e).trans (hO7.mono fun k _ e => .inr e)
  have hvO : ∀ k, v.ownBlock = some k → O k = 2 := h.ov
  have hold : ∀ k, O k ≠ 0 → pushO O r lp bp S.ls.length v2.ownBlock k = O k := fun k hk => by
    have hlt := h.lt k hk
    unfold pushO
    rw [if_neg (by omega), if_neg (by omega), if_neg (fun e => by have := hgr k e; omega)]
    split
    · rename_i e
      rcases hvv with e2 | e2
      · rw [e2] at e
        exact (hvO k e).symm
      · rw [e2] at e
        injection e with e
        have := hB.size
        omega
    · rfl
  have hnew : ∀ k, w.heap.size ≤ k → ¬ (v.ownBlock = some k ∨ k = p) := fun k hk e => by
    rcases e with e | e
    · have := h.lt k (by rw [hvO k e]; decide)
      omega
    · omega
  have hsz5 := hO6.size
  refine ⟨pushO O r lp bp S.ls.length v2.ownBlock, ⟨?_, ?_, ?_, ?_, ?_, ?_, ?_⟩, ⟨?_, hold, ?_⟩⟩
  · have hpn : ¬ v.ownBlock = some p := fun e => by have := hvO p e; rw [hop] at this; cases this
    exact setCell_block (hO6.keep h5.blk hpn) 1 _
  · show (w6.setCell ⟨p, 1, none⟩ v2).ownsRow 0 77 1 v2 (S.ls ++ [L]).length _
    rw [List.length_append]
    refine own_only hrow hO7 (fun k hk e => ?_)
    rw [e] at hk
    rcases hvv with e2 | e2
    · rw [e2] at hk
      have := hvO p hk
      rw [hop] at this
      cases this
    · rw [e2] at hk
      injection hk with hk
      have := hB.size
      omega
  · show (ps ++ [lp]).length = (S.ls ++ [L]).length
    rw [List.length_append, List.length_append, h.len]
    rfl
  · intro c M mp hc hm
    by_cases hlt : c < S.ls.length
    · have hc : (S.ls ++ [L])[c]? = some M := hc
      rw [List.getElem?_append_left hlt] at hc
      rw [List.getElem?_append_left (by rw [h.len]; exact hlt)] at hm
      obtain ⟨bm, qm, rm, hM⟩ := h5.ln c M mp hc hm
      refine ⟨bm, qm, rm, (hM.keep hO57 ?_ ?_ ?_).roles hold⟩
      · rintro (e | e)
        · have := hvO mp e; rw [hM.ol] at this; omega
        · have := hM.ol; rw [e, hop] at this; omega
      · rintro (e | e)
        · have := hvO bm e; rw [hM.ob] at this; omega
        · have := hM.ob; rw [e, hop] at this; omega
      · rintro k hk (e | e)
        · have := hvO k e; rw [hM.oq k hk] at this; omega
        · have := hM.oq k hk; rw [e, hop] at this; omega
    · have hcl := (List.getElem?_eq_some_iff.1 hc).1
      have hc : (S.ls ++ [L])[c]? = some M := hc
      have hcl : c < (S.ls ++ [L]).length := hcl
      simp at hcl
      obtain rfl : c = S.ls.length := by omega
      rw [List.getElem?_append_right (Nat.le_refl _), Nat.sub_self] at hc
      rw [List.getElem?_append_right (by rw [h.len]; exact Nat.le_refl _), h.len, Nat.sub_self] at hm
      simp at hc hm
      subst hc hm
      refine ⟨bp, qp, r, hO57.keep hlb (hnew lp hgl), hO57.keep hb (hnew bp hgb), hq.keep hO57 (fun k hk => hnew k (hgr k hk)), ?_, ?_, ?_⟩
      · unfold pushO; rw [if_pos rfl]
      · unfold pushO; rw [if_neg (fun e => hlb2 e.symm), if_pos rfl]
      · intro k hk
        unfold pushO
        rw [if_neg (fun e : k = lp => hk (by rw [e]; exact hrl)), if_neg (fun e : k = bp => hk (by rw [e]; exact hrb)), if_pos hk]
  · show pushO O r lp bp S.ls.length v2.ownBlock p = 1
    rw [hold p (by rw [hop]; decide)]
    exact hop
  · intro k hk
    rcases hvv with e2 | e2
    · rw [e2] at hk
      have h2 := hvO k hk
      rw [hold k (by rw [h2]; decide)]
      exact h2
    · have hk2 := hk
      rw [e2] at hk2
      injection hk2 with hk2
      have h1 := lt_of_obj hlb
      have h3 := lt_of_obj hb
      have h4 : ¬ r k ≠ 0 := fun e => by have := hq.lt k e; omega
      unfold pushO
      rw [if_neg (by omega), if_neg (by omega), if_neg h4, if_pos hk]
  · intro k (hk : pushO O r lp bp S.ls.length v2.ownBlock k ≠ 0)
    have hs7 := hO7.size
    unfold pushO at hk
    have h1 := lt_of_obj hlb
    have h3 := lt_of_obj hb
    split at hk
    · omega
    · split at hk
      · omega
      · split at hk
        · rename_i e
          have := hq.lt k e
          omega
        · split at hk
          · rename_i e
            obtain ⟨_, hc⟩ := row_type hrow k e
            have := lt_of_obj hc
            omega
          · have := h.lt k hk
            have := hB.size
            omega
  · refine ((Below.only hB (fun k => O k ≠ 0))).trans (hO57.mono fun k _ e => ?_)
    rcases e with e | e
    · rw [hvO k e]; decide
    · rw [e, hop]; decide
  · intro k (hk : pushO O r lp bp S.ls.length v2.ownBlock k ≠ 0)
    by_cases hkw : w.heap.size ≤ k
    · exact .inr hkw
    · refine .inl ?_
      unfold pushO at hk
      rw [if_neg (by omega), if_neg (by omega), if_neg (fun e => by have := hgr k e; omega)] at hk
      split at hk
      · rename_i e
        rcases hvv with e2 | e2
        · rw [e2] at e
          rw [hvO k e]; decide
        · rw [e2] at e
          injection e with e
          have := hB.size
          omega
      · exact hk
end Go.Proofs.Ythipfcmjpgbemaa
