/- ShaperEarly, walked. -/
import Derived.Test.YthipfcmjpgbemaaGk
namespace Go.Proofs.Ythipfcmjpgbemaa
open Go.RowKit

def E1 (W : World) (pa : Nat) (va : Value) (psa : List Nat) (pb : Nat) (vb : Value) (psb : List Nat) (items : List Ac) (iv : Value) (w : World) : Prop :=
  ∃ k : Nat, ∃ Oa Ob S, iv = .int .i64 k ∧ k ≤ items.length ∧ Two W w pa Oa va psa S pb Ob vb psb S ∧ S.Ok k ∧ S.tick = 7

def E2 (wA : World) (pb : Nat) (Ob0 : Nat → Nat) (vb : Value) (psb : List Nat) (S : Sh) (n : Nat) (gv tv : Value) (w : World) : Prop :=
  ∃ (t : Nat) (Ob : Nat → Nat) (Sb : Sh) (F : Nat → Prop) (xs : List Value) (L : List OutR) (a : Option Addr) (c : Nat), tv = .int .u64 (t : Nat) ∧ gv = .slice a L.length c ∧ t ≤ n + 1 ∧ IsS w pb Ob vb psb Sb ∧ Sb.Ok 12 ∧ Grow Ob0 Ob wA w ∧ GotR w F gv xs L ∧
    (∀ k, F k ∨ gv.ownBlock = some k → Ob k = 0 ∧ wA.heap.size ≤ k) ∧ Upto S t L Sb ∧ total Sb.ls + L.length = total S.ls
def E3 (w1 : World) (n : Nat) (iv : Value) (w : World) : Prop := ∃ i : Nat, iv = .int .i64 i ∧ i ≤ n ∧ Below w1.heap.size w1 w

theorem e2_step {wA wB wr w' : World} {pb n t : Nat} {Ob Ob2 : Nat → Nat} {vb v v3 : Value} {psb : List Nat} {S Sb2 : Sh} {F1 F2 : Nat → Prop} {xs ys : List Value} {L one : List OutR} {vo2 : Value}
    (hI : IsS wB pb Ob2 vb psb Sb2) (hSn : Sb2.Ok 12) (hGn : Grow Ob Ob2 wA wB) (hFn : ∀ j, (F1 j ∨ v.ownBlock = some j) ∨ F2 j ∨ vo2.ownBlock = some j → Ob2 j = 0 ∧ wA.heap.size ≤ j)
    (hU : Upto S (t + 1) (L ++ one) Sb2) (htot : total Sb2.ls + (L.length + one.length) = total S.ls) (htn : t ≤ n) (hB : Below wB.heap.size wB wr)
    (hG3 : GotR w' (fun k => F1 k ∨ F2 k) v3 (xs ++ ys) (L ++ one)) (hO3 : Only (fun k => v.ownBlock = some k) wr w') (hv3 : v3.ownBlock = v.ownBlock ∨ v3.ownBlock = some wr.heap.size) :
    E2 wA pb Ob vb psb S n v3 (.int .u64 (t + 1 : Nat)) w' := by
  obtain ⟨a3, c3, e3⟩ := own_shape hG3.row
  have hIr := hI.below hB
  have hGr := hGn.trans (Grow.below hB)
  have hs1 := hGn.only.size
  have hs2 := hB.size
  refine ⟨t + 1, Ob2, Sb2, _, _, _, a3, c3, rfl, e3, by omega, hIr.keep hO3 (fun k hk e => hk (hFn k (.inl (.inr e))).1), hSn, ⟨⟨hO3.os.trans hGr.only.os, hO3.tape.trans hGr.only.tape, hO3.output.trans hGr.only.output, Nat.le_trans hGr.only.size hO3.size, fun b hb h0 => ?_⟩, hGr.old, hGr.new⟩, hG3, fun k hk => ?_, hU, by rw [List.length_append]; exact htot⟩
  · refine (hO3.block b (Nat.lt_of_lt_of_le hb hGr.only.size) (fun h1 => ?_)).trans (hGr.only.block b hb h0)
    have := (hFn b (.inl (.inr h1))).2
    omega
  · rcases hk with (hk | hk) | hk
    · exact hFn k (.inl (.inl hk))
    · exact hFn k (.inr (.inl hk))
    · rcases hv3 with e | e
      · rw [e] at hk
        exact hFn k (.inl (.inr hk))
      · rw [e] at hk
        injection hk with hk
        subst hk
        exact ⟨hIr.zero (Nat.le_refl _), by omega⟩

set_option maxHeartbeats 4000000 in
set_option maxRecDepth 100000 in
theorem early_any (l : List Cl) (items : List Ac) (q : Nat) (hq : q < 256) (v vi : Value) (w : World) (hl : Cls w v l) (hi : IsAcs w vi items) :
    Calls Try.prog 3 #[v, vi, .int .u8 q] w fun e w' => e = .returned (.bool true) ∧ Below w.heap.size w w' := by
  obtain ⟨a, c, rfl, -⟩ := id hl.sh
  have HI := Lib.hid hi
  obtain ⟨ai, ci, rfl, hA⟩ := hi
  have HL := Lib.hid hl
  have HA := Lib.hid hA
  clear hl hA
  go_enter Try.func3, Try.ntmps3
  by_cases h6 : 6 < l.length
  · have h6i : (6 : Int) < (l.length : Int) := by omega
    go_wp2_with fail
    refine (works_any _).mono ?_
    rintro e w1 ⟨rfl, hB⟩
    go_wp2_with fail
    go_ret
    exact ⟨rfl, hB⟩
  have h6i : ¬ (6 : Int) < (l.length : Int) := by omega
  go_wp2_with fail
  refine (few_any _ items 12 (by decide) _ HI.out).mono ?_
  rintro e w1 ⟨b, rfl, rfl, hb, -⟩
  cases b with
  | false =>
    clear hb
    go_wp2_with fail
    refine (works_any _).mono ?_
    rintro e w2 ⟨rfl, hB⟩
    go_wp2_with fail
    go_ret
    exact ⟨rfl, hB⟩
  | true =>
    have HF := Lib.hid (hb rfl)
    clear hb
    obtain ⟨w, rfl⟩ : ∃ wo : World, wo = w1 := ⟨_, rfl⟩
    go_wp2_with fail
    refine (snew_any (t := 7) HL.out (by decide)).mono ?_
    rintro e w2 hN
    rcases hN with ⟨hnb, rfl, hB2⟩ | ⟨hnb, pa, Oa, va, psa, rfl, hMa⟩
    · go_wp2_with fail
      refine (snew_any (t := 7) (HL.out.below hB2) (by decide)).mono ?_
      rintro e w3 hN
      rcases hN with ⟨-, rfl, hB3⟩ | ⟨h2, -⟩
      · have hB := hB2.trans (hB3.mono hB2.size)
        clear hB2 hB3
        go_wp2_with fail
        refine (works_any _).mono ?_
        rintro e w4 ⟨rfl, hB4⟩
        go_wp2_with fail
        go_ret
        exact ⟨rfl, hB.trans (hB4.mono hB.size)⟩
      · rw [hnb] at h2
        cases h2
    · have HMA := Lib.hid hMa
      clear hMa
      unfold ptr
      go_wp2_with fail
      refine (snew_any (t := 7) (HL.out.below HMA.out.bel) (by decide)).mono ?_
      rintro e w3 hN
      rcases hN with ⟨h2, -⟩ | ⟨-, pb, Ob, vb, psb, rfl, hMb⟩
      · rw [hnb] at h2
        cases h2
      have HT := Lib.hid (Two.mk' HMA.out hMb)
      clear hMb HMA
      have h8 := (newB_len hnb).2
      have HS0 := Lib.hid (newSh_ok (t := 7) HL.out.ok h8 (by decide))
      unfold ptr
      go_wp2_with fail
      go_loopw [11] (E1 w pa va psa pb vb psb items) (fun i _ => items.length - (intOf i).toNat)
      case atStart => exact ⟨0, _, _, _, rfl, Nat.zero_le _, HT.out, HS0.out, rfl⟩
      case round =>
        clear HT HS0
        obtain ⟨k, Oa, Ob, S, rfl, hk, hT, hS, ht7⟩ := hrel
        by_cases hlt : k < items.length
        · obtain ⟨bi, o, rfl, hbl, hac⟩ := HA.out (by omega)
          obtain ⟨A, hAk⟩ : ∃ A, items[k]? = some A := ⟨_, List.getElem?_eq_getElem hlt⟩
          have hA1 := (hac k A hAk).below hbl hT.a.bel
          obtain ⟨da, dc, ed, _⟩ := hA1.d
          have q1 := hA1.c1
          have q2 := hA1.c2
          have q3 := hA1.c3
          have q4 := hA1.c4
          rw [ed] at q4
          have hki : (k : Int) < (items.length : Int) := by omega
          have hk12 : k < 12 := by have := HF.out.1; omega
          have hds : A.ds.length ≤ 20 := HF.out.2 A (List.mem_of_getElem? hAk)
          have hyr : ∀ O : Nat → Nat, (∀ j, O j ≠ 0 → w.heap.size ≤ j) → 0 < A.ds.length → ∀ j, (Value.slice da A.ds.length dc).ownBlock = some j → O j = 0 := fun O hO h0 j hj => by
            obtain ⟨ao, cap, e, _, _, h3, _⟩ := (hac k A hAk).d
            rw [ed] at e
            injection e with e1 e2 e3
            subst e1
            rcases Nat.eq_zero_or_pos (O j) with e | e
            · exact e
            · have := hO j (by omega)
              cases da with
              | none => simp [Value.ownBlock] at hj
              | some x =>
                have h4 := h3 h0 x rfl
                simp [Value.ownBlock] at hj
                subst hj
                omega
          have hd0 := (hac k A hAk).d
          rw [ed] at hd0
          have HOA : Hid (∀ w', Below wr.heap.size wr w' → Calls Try.prog 11 #[.pointer (some ⟨pa, 0, none⟩), .int .i64 A.cls, .agg #[.int .u64 A.no, .int .i64 A.size, .slice da A.ds.length dc]] w' fun e w'' => e = .returned (.int .i64 (S.offC A.cls A.size)) ∧ ∃ Oa', Two w w'' pa Oa' va psa (S.off A.cls A.size A.no A.ds) pb Ob vb psb S) := fun w' hB => by
            have hT' := hT.below hB
            exact (offer_any A.cls A.size A.no _ A.ds hT'.a.is hS (hd0.below hT'.a.bel) (hyr Oa hT'.a.ge) (by omega)).mono fun e w'' ⟨he, O', hI, hG⟩ => ⟨he, O', hT'.stepA hI hG⟩
          have HOB : Hid (∀ w' Oa', Two w w' pa Oa' va psa (S.off A.cls A.size A.no A.ds) pb Ob vb psb S → Calls Try.prog 11 #[.pointer (some ⟨pb, 0, none⟩), .int .i64 A.cls, .agg #[.int .u64 A.no, .int .i64 A.size, .slice da A.ds.length dc]] w' fun e w'' => e = .returned (.int .i64 (S.offC A.cls A.size)) ∧ ∃ Ob', Two w w'' pa Oa' va psa (S.off A.cls A.size A.no A.ds) pb Ob' vb psb (S.off A.cls A.size A.no A.ds)) := fun w' Oa' hT' =>
            (offer_any A.cls A.size A.no _ A.ds hT'.b.is hS (hd0.below hT'.b.bel) (hyr Ob hT'.b.ge) (by omega)).mono fun e w'' ⟨he, O', hI, hG⟩ => ⟨he, O', hT'.stepB hI hG⟩
          have HQ : Hid (∀ w', Below w.heap.size w w' → w'.cell? ⟨bi, o + k * 6 + 1, none⟩ = some (.int .i64 A.cls) ∧ w'.cell? ⟨bi, o + k * 6 + 2, none⟩ = some (.int .u64 A.no) ∧ w'.cell? ⟨bi, o + k * 6 + 3, none⟩ = some (.int .i64 A.size) ∧ w'.cell? ⟨bi, o + k * 6 + 4, none⟩ = some (.slice da A.ds.length dc)) := fun w' hB => by
            have hA2 := (hac k A hAk).below hbl hB
            refine ⟨hA2.c1, hA2.c2, hA2.c3, ?_⟩
            rw [← ed]
            exact hA2.c4
          have HS := Lib.hid (off_ok hS A.cls A.size A.no A.ds (by have := HF.out.1; omega))
          have HTK := Lib.hid ((off_tick S A.cls A.size A.no A.ds).trans ht7)
          clear hT hS ht7 hA1 hac hyr hd0 ed hAk hds
          generalize S.off A.cls A.size A.no A.ds = S2 at *
          generalize S.offC A.cls A.size = code at *
          go_wp2_with fail
          go_region_held3 (fun w' => w'.cell? ⟨bi, o + k * 6 + 1, none⟩ = some (.int .i64 A.cls) ∧ w'.cell? ⟨bi, o + k * 6 + 2, none⟩ = some (.int .u64 A.no) ∧ w'.cell? ⟨bi, o + k * 6 + 3, none⟩ = some (.int .i64 A.size) ∧ w'.cell? ⟨bi, o + k * 6 + 4, none⟩ = some (.slice da A.ds.length dc)) (go_keep) (first
            | (go_at_call 11; with_reducible refine Calls.mono (HOA.out _ ((Below.refl wr.heap.size wr).drew)) ?_; rintro e w5 ⟨rfl, Oa1, hT1⟩
               obtain ⟨z1, z2, z3, z4⟩ := HQ.out w5 hT1.a.bel
               have HT1 := Lib.hid hT1; clear hT1)
            | (go_at_call 11; with_reducible refine Calls.mono (HOB.out _ _ HT1.out) ?_; rintro e w6 ⟨rfl, Ob1, hT2⟩
               obtain ⟨y1, y2, y3, y4⟩ := HQ.out w6 hT2.a.bel
               have HT2 := Lib.hid hT2; clear hT2))
          all_goals
            clear HOA HOB HQ
            go_wp2_with fail
            go_roundw
            case rel =>
              have HR : Hid (E1 w pa va psa pb vb psb items (.int .i64 (k + 1 : Nat)) w6) := ⟨k + 1, _, _, _, rfl, by omega, HT2.out, HS.out, HTK.out⟩
              clear HT2 HS HTK
              first | exact HR.out | ((repeat apply Exists.intro); exact ⟨HR.out, rfl⟩)
            case measure => simp [intOf]; omega
        · obtain rfl : k = items.length := by omega
          have hf12 := HF.out.1
          have HT := Lib.hid hT
          have HS := Lib.hid (hS.mono hf12 (by decide))
          have HTK := Lib.hid ht7
          clear hT hS ht7 HA HI
          go_wp2_with fail
          obtain ⟨n, hn⟩ : ∃ n : Nat, (q : Int) % 200 = n := ⟨q % 200, by omega⟩
          have hn2 : n < 200 := by omega
          rw [hn, show (7 : Int) + (n : Int) = ((7 + n : Nat) : Int) by omega]
          clear hn hq
          have hr := Release_is (t := 7 + n) HT.out.a.is HS.out (by omega)
          unfold ptr at hr
          refine hr.mono ?_
          clear hr
          rintro e wA ⟨Oa2, F, vo, xw, rfl, hR⟩
          have hT2 := HT.out.stepA hR.is hR.grow
          have hOb : ∀ j, Ob j ≠ 0 → j < wr.heap.size := fun j hj => HT.out.b.is.lt j hj
          have hWb : ∀ j, F j ∨ vo.ownBlock = some j → Ob j = 0 := fun j hj => by
            rcases Nat.eq_zero_or_pos (Ob j) with e | e
            · exact e
            · have h1 := hOb j (by omega)
              rcases hj with hj | hj
              · have := hR.new.ge j hj; omega
              · have := own_ge hR.new.row j hj; omega
          have HWB := Lib.hid hWb
          have HWN := Lib.hid hR.new.got
          have HTA := Lib.hid hT2
          obtain ⟨wa, wc, ewo⟩ := own_shape hR.new.row
          subst ewo
          clear hT2 hOb hWb hR HT
          have hLw := rel_total S (7 + n)
          have h96 := few_total HS.out
          generalize hW : (S.rel (7 + n)).2 = want at *
          have HW := Lib.hid hW
          have hwl : want.length ≤ 96 := by omega
          clear hW hLw
          go_wp2_with fail
          go_loopw [14, 15] (E2 wA pb Ob vb psb S n) (fun _ t _ => n + 1 - (intOf t).toNat)
          case atStart => exact ⟨0, Ob, S, fun _ => False, [], [], none, 0, rfl, rfl, Nat.zero_le _, HTA.out.b.is, HS.out, Grow.below (Below.refl _ _), gotR_nil _, fun k h => by rcases h with h | h; exact h.elim; simp [Value.ownBlock] at h, .inl ⟨rfl, rfl, rfl⟩, rfl⟩
          case round =>
            obtain ⟨t, Ob1, Sb, F1, xs, L, ga, gc, rfl, rfl, ht, hI, hSb, hG, hGot, hF1, hU, htot⟩ := hrel
            by_cases htn : t ≤ n
            · have htni : (t : Int) ≤ (n : Int) := by omega
              have ht200 : t < 200 := by omega
              have HH := Lib.hid (And.intro hI (And.intro hSb (And.intro hG (And.intro hGot (And.intro hF1 (And.intro hU htot))))))
              have hLl : L.length ≤ 96 := by omega
              clear hI hSb hG hGot hF1 hU htot
              go_wp2_with fail
              rw [show (7 : Int) + (t : Int) = ((7 + t : Nat) : Int) by omega]
              have hr := Release_is (t := 7 + t) HH.out.1 HH.out.2.1 (by omega)
              unfold ptr at hr
              refine hr.mono ?_
              clear hr
              rintro e wB ⟨Ob2, F2, vo2, ys, rfl, hR⟩
              have hGB := HH.out.2.2.2.1.keep hR.grow.only (fun j hj e => e (HH.out.2.2.2.2.1 j (.inl hj)).1) (fun j hj e => e (HH.out.2.2.2.2.1 j (.inr hj)).1)
              have hUn := HH.out.2.2.2.2.2.1.next
              rw [HTK.out] at hUn
              have hTn := rel_total Sb (7 + t)
              have hSn := HH.out.2.1.rel (t := 7 + t) (by omega)
              have hGn := HH.out.2.2.1.trans hR.grow
              have htot := HH.out.2.2.2.2.2.2
              have hFn : ∀ j, (F1 j ∨ (Value.slice ga L.length gc).ownBlock = some j) ∨ F2 j ∨ vo2.ownBlock = some j → Ob2 j = 0 ∧ wA.heap.size ≤ j := fun j hj => by
                have hs := HH.out.2.2.1.only.size
                rcases hj with hj | hj | hj
                · have h1 := HH.out.2.2.2.2.1 j hj
                  refine ⟨?_, h1.2⟩
                  rcases Nat.eq_zero_or_pos (Ob2 j) with e | e
                  · exact e
                  · rcases hR.grow.new j (by omega) with e2 | e2
                    · omega
                    · rcases hj with hj | hj
                      · have := HH.out.2.2.2.1.flt hj; omega
                      · have := HH.out.2.2.2.1.vlt hj; omega
                · exact ⟨hR.df j hj, by have := hR.new.ge j hj; omega⟩
                · exact ⟨hR.dv j hj, by have := own_ge hR.new.row j hj; omega⟩
              obtain ⟨oa, oc, eo⟩ := own_shape hR.new.row
              have hNew := hR.new.got
              have hIs := hR.is
              clear hR HH
              generalize (Sb.rel (7 + t)).2 = one at *
              generalize (Sb.rel (7 + t)).1 = Sb2 at *
              subst eo
              have hol : one.length ≤ 96 := by omega
              have HGB := Lib.hid hGB
              have HNW := Lib.hid hNew
              have HRest := Lib.hid (And.intro hIs (And.intro hSn (And.intro hGn (And.intro hFn (And.intro hUn.1 (show total Sb2.ls + (L.length + one.length) = total S.ls by omega))))))
              have HNow := Lib.hid hUn.2
              clear hGB hNew hIs hSn hGn hFn hUn hTn htot
              go_wp2_with fail
              go_loopw [17] (E3 wB one.length) (fun i _ => one.length - (intOf i).toNat)
              case atStart => exact ⟨0, rfl, Nat.zero_le _, Below.refl _ _⟩
              case round =>
                obtain ⟨i, rfl, hi, hB⟩ := hrel
                by_cases hio : i < one.length
                · obtain ⟨o, hoi⟩ : ∃ o, one[i]? = some o := ⟨_, List.getElem?_eq_getElem hio⟩
                  obtain ⟨g, cap, eg, hgl, hcell⟩ := HNW.out.at (by omega)
                  injection eg with eg1 eg2 eg3
                  subst eg1 eg3
                  clear eg2
                  obtain ⟨e0, e1, -⟩ := HNW.out.cs i o hoi
                  have y0 := (hB.cell (p := ⟨g, _, none⟩) hgl).trans (hcell _ _ e0)
                  have y1 := (hB.cell (p := ⟨g, _, none⟩) hgl).trans (hcell _ _ e1)
                  have hat := HNow.out.1 o (List.mem_of_getElem? hoi)
                  rw [hat, show (((7 + t : Nat) : Nat) : Int) = 7 + (t : Int) by omega] at y0
                  have hioi : (i : Int) < (one.length : Int) := by omega
                  have hi96 : i < 96 := by omega
                  have HB := Lib.hid hB
                  clear hat
                  have hw7 : IntKind.u64.wrap (7 + (t : Int)) = 7 + (t : Int) := IntWalk.u64_in _ (by omega)
                  have HR : Hid (∀ m, E3 wB one.length (.int .i64 (i + 1 : Nat)) (wr.drewN m)) := Lib.hid fun m => ⟨i + 1, rfl, hio, below_drewN hB m⟩
                  by_cases h0 : i = 0
                  · have hi0 : ¬ (0 : Int) < (i : Int) := by omega
                    have hi0' : ¬ 0 < i := by omega
                    have hi0d : decide (0 < i) = false := decide_eq_false hi0'
                    clear e0 e1 hB y1 h0
                    go_wp2_with fail
                    go_quiet (fail)
                    all_goals
                      go_wp2_with fail
                      go_roundw
                      case rel => exact HR.out _
                      case measure => simp [intOf]; omega
                  · obtain ⟨o2, hoj⟩ : ∃ o2, one[i - 1]? = some o2 := ⟨_, List.getElem?_eq_getElem (by omega)⟩
                    obtain ⟨-, e2, -⟩ := HNW.out.cs (i - 1) o2 hoj
                    have y2 := (hB.cell (p := ⟨g, _, none⟩) hgl).trans (hcell _ _ e2)
                    have y3 := y2
                    rw [show i - 1 = ((i : Int) - 1).toNat by omega] at y3
                    have hle : o2.cls ≤ o.cls := by
                      obtain ⟨h1l, h1e⟩ := List.getElem?_eq_some_iff.1 hoi
                      obtain ⟨h2l, h2e⟩ := List.getElem?_eq_some_iff.1 hoj
                      have := List.pairwise_iff_getElem.1 HNow.out.2 (i - 1) i h2l h1l (by omega)
                      rw [h1e, h2e] at this
                      exact this
                    have hi0 : (0 : Int) < (i : Int) := by omega
                    have hi0' : 0 < i := by omega
                    have hi0d : decide (0 < i) = true := decide_eq_true hi0'
                    have hi1 : (0 : Int) ≤ (i : Int) - 1 := by omega
                    have hi2 : (i : Int) - 1 < (one.length : Int) := by omega
                    have hwi : IntKind.i64.wrap ((i : Int) - 1) = (i : Int) - 1 := IntWalk.i64_in _ (by omega)
                    have hlt : ¬ (o.cls : Int) < (o2.cls : Int) := by omega
                    clear e0 e1 e2 hB hcell hle h0
                    go_wp2_with fail
                    go_quiet (fail)
                    go_wp2_with fail
                    go_roundw
                    case rel => exact HR.out _
                    case measure => simp [intOf]; omega
                · have hii : ¬ (i : Int) < (one.length : Int) := by omega
                  have HG5 := Lib.hid (HGB.out.below hB)
                  have HN5 := Lib.hid (HNW.out.below hB)
                  have HB5 := Lib.hid hB
                  have hLO : L.length + one.length ≤ 1000000 := by omega
                  clear hB HNow HGB HNW
                  go_wp2_with (first | (at_builtin; refine wpList_append_got rfl (.tmp 129) (.tmp 130) rfl HG5.out HN5.out rfl rfl hLO ?_))
                  intro v3 w' hG3 hO3 hv3
                  have HR : Hid (E2 wA pb Ob vb psb S n v3 (.int .u64 (t + 1 : Nat)) w') := Lib.hid (e2_step HRest.out.1 HRest.out.2.1 HRest.out.2.2.1 HRest.out.2.2.2.1 HRest.out.2.2.2.2.1 HRest.out.2.2.2.2.2 htn HB5.out hG3 hO3 hv3)
                  clear hG3 hO3 hv3 HRest HG5 HN5 HB5
                  go_wp2_with fail
                  go_roundw
                  case rel => first | exact HR.out | ((repeat apply Exists.intro); exact ⟨HR.out, rfl⟩)
                  case measure => simp [intOf]; omega
            · obtain rfl : t = n + 1 := by omega
              have htni : ¬ ((n + 1 : Nat) : Int) ≤ (n : Int) := by omega
              have hLw := hU.all
              rw [HTK.out, HW.out] at hLw
              subst hLw
              have HWr := Lib.hid (HWN.out.keep hG.only (fun j hj e => e (HWB.out j (.inl hj))) (fun j hj e => e (HWB.out j (.inr hj))))
              have HGr := Lib.hid hGot
              have hs := HTA.out.b.bel.size
              have HBr := Lib.hid (HTA.out.b.bel.trans (hG.only.below hs (fun k hk e => by have := HTA.out.b.ge k e; omega)))
              clear hI hSb hG hGot hF1 hU htot HTA HWN HWB HW hs h96 HS HTK HL
              obtain ⟨wL, rfl⟩ : ∃ wo : World, wo = wr := ⟨_, rfl⟩
              go_wp2_with fail
              go_loopw [18] (E3 wL L.length) (fun i _ => L.length - (intOf i).toNat)
              case atStart => exact ⟨0, rfl, Nat.zero_le _, Below.refl _ _⟩
              case round =>
                obtain ⟨i, rfl, hi, hB⟩ := hrel
                by_cases hio : i < L.length
                · obtain ⟨o, hoi⟩ : ∃ o, L[i]? = some o := ⟨_, List.getElem?_eq_getElem hio⟩
                  obtain ⟨g, cap, eg, hgl, hcell⟩ := HGr.out.at (by omega)
                  injection eg with eg1 eg2 eg3
                  subst eg1 eg3
                  clear eg2
                  obtain ⟨g', cap', eg', hgl', hcell'⟩ := HWr.out.at (by omega)
                  injection eg' with eg1 eg2 eg3
                  subst eg1 eg3
                  clear eg2
                  obtain ⟨e0, e1, y, hy⟩ := HGr.out.cs i o hoi
                  obtain ⟨e0', e1', y', hy'⟩ := HWr.out.cs i o hoi
                  have e2 := hy.c0
                  have e3 := hy.c1
                  have e4 := hy.c2
                  have e2' := hy'.c0
                  have e3' := hy'.c1
                  have e4' := hy'.c2
                  obtain ⟨ya, yc, ey⟩ := own_shape hy.d
                  obtain ⟨ya', yc', ey'⟩ := own_shape hy'.d
                  subst ey ey'
                  have hioi : (i : Int) < (L.length : Int) := by omega
                  have hLl : L.length ≤ 96 := hwl
                  have hcz : ∀ (b j : Nat) (u : Value), b < wL.heap.size → wL.cell? ⟨b, j, none⟩ = some u → ∀ z : Wld (fun x => Below wr.heap.size wr x), z.w.cell? ⟨b, j, none⟩ = some u := fun b j u h1 h2 z => (z.ok.cell (p := ⟨b, j, none⟩) (Nat.lt_of_lt_of_le h1 hB.size)).trans ((hB.cell (p := ⟨b, j, none⟩) h1).trans h2)
                  have k0 := hcz _ _ _ hgl (hcell _ _ e0)
                  have k1 := hcz _ _ _ hgl (hcell _ _ e1)
                  have k2 := hcz _ _ _ hgl (hcell _ _ e2)
                  have k3 := hcz _ _ _ hgl (hcell _ _ e3)
                  have k4 := hcz _ _ _ hgl (hcell _ _ e4)
                  have m0 := hcz _ _ _ hgl' (hcell' _ _ e0')
                  have m1 := hcz _ _ _ hgl' (hcell' _ _ e1')
                  have m2 := hcz _ _ _ hgl' (hcell' _ _ e2')
                  have m3 := hcz _ _ _ hgl' (hcell' _ _ e3')
                  have m4 := hcz _ _ _ hgl' (hcell' _ _ e4')
                  have HI1 : Hid (∀ z : Wld (fun x => Below wr.heap.size wr x), Calls Try.prog 13 #[.agg #[.int .u64 o.x.no, .int .i64 o.x.size, .slice ya o.x.data.length yc]] z.w fun e w' => e = .returned (.agg #[.int .u64 o.x.no, .int .i64 o.x.size, .string (str8 o.x.data)]) ∧ Below z.w.heap.size z.w w') := Lib.hid fun z => ditem_is _ _ _ _ _ ((hy.d.holds.below hB).below z.ok)
                  have HI2 : Hid (∀ z : Wld (fun x => Below wr.heap.size wr x), Calls Try.prog 13 #[.agg #[.int .u64 o.x.no, .int .i64 o.x.size, .slice ya' o.x.data.length yc']] z.w fun e w' => e = .returned (.agg #[.int .u64 o.x.no, .int .i64 o.x.size, .string (str8 o.x.data)]) ∧ Below z.w.heap.size z.w w') := Lib.hid fun z => ditem_is _ _ _ _ _ ((hy'.d.holds.below hB).below z.ok)
                  have HBW := Lib.hid hB
                  have hi96 : i < 96 := by omega
                  haveI hne : Nonempty (Wld (fun x => Below wr.heap.size wr x)) := ⟨⟨wr, Below.refl _ _⟩⟩
                  clear hcz hcell hcell' e0 e1 e2 e3 e4 e0' e1' e2' e3' e4' hy hy' hB
                  generalize o.at' = oa at *
                  generalize o.cls = ok at *
                  generalize o.x.no = ono at *
                  generalize o.x.size = osz at *
                  generalize o.x.data.length = odl at *
                  generalize str8 o.x.data = ost at *
                  go_wp2_with fail
                  refine region_class (fun x => Below wr.heap.size wr x) (by kernel_rfl) (by kernel_rfl) (Below.refl _ _).drew ?_
                  repeat (go_big_quiet_step ((rename_i z; go_at_call 13; first
                    | (with_reducible refine Calls.mono (HI1.out z) ?_; intro e w' h; obtain ⟨he, hb⟩ := h; exact ⟨he, ⟨w', z.ok.trans (hb.mono z.ok.size)⟩, rfl⟩)
                    | (with_reducible refine Calls.mono (HI2.out z) ?_; intro e w' h; obtain ⟨he, hb⟩ := h; exact ⟨he, ⟨w', z.ok.trans (hb.mono z.ok.size)⟩, rfl⟩))))
                  refine wpQuiet_nil ?_
                  intro w8 hB8
                  have HR : Hid (E3 wL L.length (.int .i64 (i + 1 : Nat)) w8) := Lib.hid ⟨i + 1, rfl, hio, HBW.out.trans (hB8.mono HBW.out.size)⟩
                  clear k0 k1 k2 k3 k4 m0 m1 m2 m3 m4 HI1 HI2 hB8 HBW hne
                  go_wp2_with fail
                  go_roundw
                  case rel => first | exact HR.out | ((repeat apply Exists.intro); exact ⟨HR.out, rfl⟩)
                  case measure => simp [intOf]; omega
                · have hii : ¬ (i : Int) < (L.length : Int) := by omega
                  have HBB := Lib.hid (HBr.out.trans (hB.mono HBr.out.size))
                  clear hB
                  go_wp2_with fail
                  refine (works_any _).mono ?_
                  rintro e w4 ⟨rfl, hB4⟩
                  go_wp2_with fail
                  go_ret
                  exact ⟨rfl, HBB.out.trans (hB4.mono HBB.out.size)⟩
end Go.Proofs.Ythipfcmjpgbemaa

/- ShaperEarly's walk, over whatever was opened. -/
namespace Go.Proofs.Ythipfcmjpgbemaa
open Go.RowKit
theorem early_ex (q : Int) (hq : (Lit.int .u8 q).wf = true) (lv iv : Value) (w : World) (h1 : ∃ l, Cls w lv l) (h2 : ∃ l, IsAcs w iv l) :
    Calls Try.prog 3 #[lv, iv, .int .u8 q] w fun e w' => e = .returned (.bool true) ∧ Below w.heap.size w w' := by
  obtain ⟨l, hl⟩ := h1
  obtain ⟨i, hi⟩ := h2
  have hb := bounds_u8 hq
  obtain ⟨n, rfl⟩ := Int.eq_ofNat_of_zero_le hb.1
  exact early_any l i n (by omega) lv iv w hl hi
end Go.Proofs.Ythipfcmjpgbemaa
