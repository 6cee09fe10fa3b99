/- ShaperPlays, walked. -/
import Derived.Test.YthipfcmjpgbemaaGu
namespace Go.Proofs.Ythipfcmjpgbemaa
open Go.RowKit

theorem R4.lower {w : World} {B B' : Nat} {ty : TypeId} {v : Value} {rs : List (List Value)} (h : R4 w B ty v rs) (hB : B' ≤ B) : R4 w B' ty v rs := ⟨own_lower h.row hB, h.len⟩
theorem RL.lower {w : World} {B B' : Nat} {v : Value} {L : List It} (h : RL w B v L) (hB : B' ≤ B) : RL w B' v L := h.raise (fun k hk => Nat.le_trans hB (h.ge k hk).1)
theorem IsR.lower {w : World} {B B' p : Nat} {bv qv sv : Value} {qs : List Value} {S : Sh} (h : IsR w B p bv qv sv qs S) (hB : B' ≤ B) : IsR w B' p bv qv sv qs S :=
  ⟨⟨h.rp.blk, Nat.le_trans hB h.rp.pb, h.rp.b.lower hB, h.rp.q.lower hB, h.rp.s.lower hB⟩, h.ql, fun c L y hL hy => (h.rl c L y hL hy).lower hB⟩
theorem both_new {W w2 w4 : World} {p : Nat} {O : Nat → Nat} {v : Value} {ps : List Nat} {pr : Nat} {bv qv sv : Value} {qs : List Value} {S : Sh} {B : Nat} (hM : MineS W w2 p O v ps S) (hR : IsR w4 B pr bv qv sv qs S) (hB : w2.heap.size ≤ B) (h4 : Below w2.heap.size w2 w4) : Both W w4 p O v ps pr bv qv sv qs S S := by
  have hs := hM.bel.size
  exact ⟨hM.below h4, hR.lower (by omega), fun k hk => hM.is.zero (by have := (hR.rp.lt hk).1; omega), fun y hy k hk => hM.is.zero (by have := (hR.qlt hy hk).1; omega)⟩
def PlRel (W : World) (p : Nat) (v : Value) (ps : List Nat) (pr : Nat) (bv qv sv : Value) (n : Nat) (iv : Value) (w : World) : Prop :=
  ∃ (k : Nat) (O : Nat → Nat) (qs : List Value) (S : Sh), iv = .int .i64 k ∧ k ≤ n ∧ Both W w p O v ps pr bv qv sv qs S S ∧ S.Ok k

set_option maxHeartbeats 4000000 in
set_option maxRecDepth 100000 in
theorem plays_any {t : Nat} (ht : t < 18446744073709551616) (l : List Cl) (items : List Ac) (v vi : Value) (w : World) (hl : Cls w v l) (hi : IsAcs w vi items) :
    Calls Try.prog 5 #[.int .u64 t, v, vi] w fun e w' => e = .returned (.bool true) ∧ Below w.heap.size w w' := by
  obtain ⟨a, c, rfl, -⟩ := id hl.sh
  have HI := Lib.hid hi
  obtain ⟨ai, ci, rfl, hA⟩ := hi
  have HL := Lib.hid hl
  have HA := Lib.hid hA
  clear hl hA
  go_enter Try.func5, Try.ntmps5
  by_cases h12 : 12 < l.length
  · have h12i : (12 : Int) < (l.length : Int) := by omega
    go_wp2_with fail
    refine (works_any _).mono ?_
    rintro e w1 ⟨rfl, hB⟩
    go_wp2_with fail
    go_ret
    exact ⟨rfl, hB⟩
  have h12i : ¬ (12 : Int) < (l.length : Int) := by omega
  go_wp2_with fail
  refine (few_any _ items 50 (by decide) _ HI.out).mono ?_
  rintro e w1 ⟨b, rfl, rfl, hb, -⟩
  cases b with
  | false =>
    clear hb
    go_wp2_with fail
    refine (works_any _).mono ?_
    rintro e w2 ⟨rfl, hB⟩
    go_wp2_with fail
    go_ret
    exact ⟨rfl, hB⟩
  | true =>
    have HF := Lib.hid (hb rfl)
    clear hb
    obtain ⟨w, rfl⟩ : ∃ wo : World, wo = w1 := ⟨_, rfl⟩
    go_wp2_with fail
    refine (snew_any (t := t) HL.out ht).mono ?_
    rintro e w2 hN
    rcases hN with ⟨hnb, rfl, hB2⟩ | ⟨hnb, p, O, v, ps, rfl, hM⟩
    · have HB2 := Lib.hid hB2
      go_wp2_with fail
      refine (classes_is (HL.out.below hB2) (by omega)).mono ?_
      rintro e w3 ⟨cv, rfl, hR4, hB3⟩
      obtain ⟨ca, cc, ecv⟩ := hR4.shape
      rw [List.length_map] at ecv
      subst ecv
      have HR4 := Lib.hid (And.intro hR4 hB3)
      clear hB2 hR4 hB3
      go_wp2_with fail
      refine (rnew_any12 (t := t) (HR4.out.1.lower (Nat.zero_le _)) HL.out.ok ht).mono ?_
      rintro e w4 hN
      rcases hN with ⟨-, rfl, hB4⟩ | ⟨h2, -⟩
      · have HB4 := Lib.hid ((HB2.out.trans (HR4.out.2.mono HB2.out.size)).trans (hB4.mono (Nat.le_trans HB2.out.size HR4.out.2.size)))
        clear hB4 HR4
        go_wp2_with fail
        refine (works_any _).mono ?_
        rintro e w5 ⟨rfl, hB5⟩
        go_wp2_with fail
        go_ret
        exact ⟨rfl, HB4.out.trans (hB5.mono HB4.out.size)⟩
      · rw [hnb] at h2
        cases h2
    · have HM := Lib.hid hM
      clear hM
      unfold ptr
      go_wp2_with fail
      refine (classes_is (HL.out.below HM.out.bel) (by omega)).mono ?_
      rintro e w3 ⟨cv, rfl, hR4, hB3⟩
      obtain ⟨ca, cc, ecv⟩ := hR4.shape
      rw [List.length_map] at ecv
      subst ecv
      have HR4 := Lib.hid (And.intro hR4 hB3)
      clear hR4 hB3
      go_wp2_with fail
      refine (rnew_any12 (t := t) (HR4.out.1.lower (Nat.zero_le _)) HL.out.ok ht).mono ?_
      rintro e w4 hN
      rcases hN with ⟨h2, -⟩ | ⟨-, pr, bv, qv, sv, qs, rfl, hR, hB4⟩
      · rw [hnb] at h2
        cases h2
      have h8 := (newB_len hnb).2
      have HS0 := Lib.hid (newSh_ok (t := t) HL.out.ok h8 ht)
      have HB := Lib.hid (both_new HM.out hR HR4.out.2.size (HR4.out.2.trans (hB4.mono HR4.out.2.size)))
      clear hR hB4 HR4 HM
      have HIS := Lib.hid (is_any HB.out HS0.out (by decide))
      unfold ptr at *
      go_wp2_with fail
      refine HIS.out.mono ?_
      rintro e w5 ⟨rfl, hB5⟩
      have HB5 := Lib.hid (HB.out.below hB5)
      clear hB5 HIS HB
      go_wp2_with fail
      go_loopw [11] (PlRel w p v ps pr bv qv sv items.length) (fun i _ => items.length - (intOf i).toNat)
      case atStart => exact ⟨0, O, qs, _, rfl, Nat.zero_le _, HB5.out, HS0.out⟩
      case round =>
        clear HB5 HS0
        obtain ⟨k, O, qs, S, rfl, hk, hB, hS⟩ := hrel
        have hf50 := HF.out.1
        by_cases hlt : k < items.length
        · obtain ⟨bi, o, rfl, hbl, hac⟩ := HA.out (by omega)
          obtain ⟨A, hAk⟩ : ∃ A, items[k]? = some A := ⟨_, List.getElem?_eq_getElem hlt⟩
          have hA0 := hac k A hAk
          have hA1 := hA0.below hbl hB.m.bel
          have hdl := HF.out.2 A (List.mem_of_getElem? hAk)
          obtain ⟨hd1, hok1⟩ := does_any A hA0.wf hB hS (by omega) hA0.d (by omega)
          obtain ⟨da, dc, ed, _⟩ := hA1.d
          have q0 := hA1.c0
          have q1 := hA1.c1
          have q2 := hA1.c2
          have q3 := hA1.c3
          have q4 := hA1.c4
          have q5 := hA1.c5
          rw [ed] at q4
          unfold Ac.arr ptr at hd1
          rw [ed] at hd1
          have HD := Lib.hid hd1
          have HOK := Lib.hid hok1
          have hki : (k : Int) < (items.length : Int) := by omega
          have hk50 : k < 50 := by omega
          clear hd1 hok1 hA0 hA1 hac ed hAk hB hS hdl
          generalize S.act A = S2 at *
          go_wp2_with fail
          refine HD.out.mono ?_
          rintro e w6 ⟨rfl, O6, qs6, hB6⟩
          have HB6 := Lib.hid hB6
          have HIS := Lib.hid (is_any hB6 HOK.out (by omega))
          unfold ptr at HIS
          clear hB6 HD q0 q1 q2 q3 q4 q5
          go_wp2_with fail
          refine HIS.out.mono ?_
          rintro e w7 ⟨rfl, hB7⟩
          have HR : Hid (PlRel w p v ps pr bv qv sv items.length (.int .i64 (k + 1 : Nat)) w7) := Lib.hid ⟨k + 1, O6, qs6, S2, rfl, hlt, HB6.out.below hB7, HOK.out⟩
          clear hB7 HIS HB6 HOK
          go_wp2_with fail
          go_roundw
          case rel => exact HR.out
          case measure => simp [intOf]; omega
        · have hki : ¬ (k : Int) < (items.length : Int) := by omega
          have HBL := Lib.hid hB.m.bel
          clear hB hS
          go_wp2_with fail
          refine (works_any _).mono ?_
          rintro e w6 ⟨rfl, hB6⟩
          go_wp2_with fail
          go_ret
          exact ⟨rfl, HBL.out.trans (hB6.mono HBL.out.size)⟩
theorem plays_ex (q : Int) (hq : (Lit.int .u64 q).wf = true) (lv iv : Value) (w : World) (h1 : ∃ l, Cls w lv l) (h2 : ∃ l, IsAcs w iv l) :
    Calls Try.prog 5 #[.int .u64 q, lv, iv] w fun e w' => e = .returned (.bool true) ∧ Below w.heap.size w w' := by
  obtain ⟨l, hl⟩ := h1
  obtain ⟨i, hi⟩ := h2
  have hb := bounds_u64 hq
  obtain ⟨n, rfl⟩ := Int.eq_ofNat_of_zero_le hb.1
  exact plays_any (by omega) l i lv iv w hl hi
end Go.Proofs.Ythipfcmjpgbemaa
