/- The short calls of each statement; few. -/
import Derived.Test.YthipfcmjpgbemaaSo
namespace Go.Proofs.Ythipfcmjpgbemaa
open Go.RowKit

def c1 : Cl := ⟨1, 2048, 9, 9000⟩
def c2 : Cl := ⟨2, 2048, 9, 9000⟩
def S0 : Sh := ⟨5, [newLn c1 5, newLn c2 5]⟩
def S1 : Sh := ⟨5, [newLn c1 5, offL (newLn c2 5) 0 2048 []]⟩
def S2 : Sh := ⟨5, [offL (newLn c1 5) 0 2000 [], offL (newLn c2 5) 0 2048 []]⟩
def S3 : Sh := ⟨5, [offL (newLn c1 5) 0 2000 [], offL (offL (newLn c2 5) 0 2048 []) 0 3 []]⟩
theorem c_ok : ∀ x ∈ [c1, c2], x.Ok := fun x hx => by
  simp at hx
  rcases hx with rfl | rfl <;> exact ⟨by decide, by decide, by decide, by decide⟩
theorem S0_mem : newLn c2 5 ∈ S0.ls := List.mem_cons_of_mem _ (List.mem_cons_self ..)
theorem S0_ok : S0.Ok 0 := newSh_ok (l := [c1, c2]) c_ok (by decide) (by decide)
theorem S1_ok : S1.Ok 1 := S0_ok.offer (c := 1) (L := newLn c2 5) rfl 0 (sz := 2048) [] (by decide) (by decide) (by decide)
theorem S2_ok : S2.Ok 2 := S1_ok.offer (c := 0) (L := newLn c1 5) rfl 0 (sz := 2000) [] (by decide) (by decide) (by decide)
theorem S3_ok : S3.Ok 3 := S2_ok.offer (c := 1) (L := offL (newLn c2 5) 0 2048 []) rfl 0 (sz := 3) [] (by decide) (by decide) (by decide)
def works1 : List OutR := [⟨5, 0, ⟨0, 2000, []⟩⟩, ⟨5, 1, ⟨0, 2048, []⟩⟩]
theorem rel_one : (S3.rel 5).2 = works1 := by kernel_rfl
theorem next_one : (S3.rel 5).1.next = ⟨7, 1, true⟩ := by kernel_rfl
theorem rel_two : ((S3.rel 5).1.rel 9).2 = [⟨7, 1, ⟨0, 3, []⟩⟩] := by kernel_rfl
theorem out_row {base : Nat} {w : World} {F : Nat → Prop} {v : Value} {xs : List Value} {L : List OutR} (h : NewO base w F v xs L) (h0 : 0 < L.length) :
    ∃ g cap, v = .slice (some ⟨g, 0, none⟩) L.length cap ∧ base ≤ g ∧ g < w.heap.size ∧ ∀ i o, L[i]? = some o → w.cell? ⟨g, i * 5, none⟩ = some (.int .u64 o.at') ∧ w.cell? ⟨g, i * 5 + 1, none⟩ = some (.int .i64 (o.cls : Nat)) := by
  rcases h.row.2 with ⟨_, he⟩ | ⟨g, cap, cur, hv, hg, hh, hnc, hcm, hcs, hx⟩
  · omega
  · refine ⟨g, cap, hv, hg, lt_of_obj hh, fun i o hi => ?_⟩
    obtain ⟨h1, h2, -⟩ := h.cs i o hi
    have hl := (List.getElem?_eq_some_iff.1 hi).1
    have ha : ∀ j u, xs[j]? = some u → w.cell? ⟨g, j, none⟩ = some u := fun j u hj => by
      refine (cell_of_block hh j).trans ?_
      rw [← hx] at hj
      have hlt : j < L.length * 5 := by
        have := (List.getElem?_eq_some_iff.1 hj).1
        rw [List.length_take] at this
        omega
      rw [List.getElem?_take_of_lt hlt] at hj
      simpa using hj
    exact ⟨ha _ _ h1, ha _ _ h2⟩
theorem class_two (w : World) : Cls (w.alloc (.cells #[.int .u64 1, .int .u64 2048, .int .i64 9, .int .i64 9000, .int .u64 2, .int .u64 2048, .int .i64 9, .int .i64 9000] 46)) (.slice (some ⟨w.heap.size, 0, none⟩) 2 2) [c1, c2] := by
  have hg := alloc_block_new w (.cells #[.int .u64 1, .int .u64 2048, .int .i64 9, .int .i64 9000, .int .u64 2, .int .u64 2048, .int .i64 9, .int .i64 9000] 46)
  refine ⟨⟨_, 2, rfl, Nat.le_refl _, fun _ => ⟨_, 0, rfl, lt_of_obj hg, fun j x hj => ?_⟩⟩, c_ok⟩
  match j, hj with
  | 0, hj => simp at hj; subst hj; exact ⟨cell_of_block hg 0, cell_of_block hg 1, cell_of_block hg 2, cell_of_block hg 3⟩
  | 1, hj => simp at hj; subst hj; exact ⟨cell_of_block hg 4, cell_of_block hg 5, cell_of_block hg 6, cell_of_block hg 7⟩

set_option maxHeartbeats 1000000 in
set_option maxRecDepth 100000 in
theorem works_any (w : World) : Calls Try.prog 9 #[] w fun e w' => e = .returned (.bool true) ∧ Below w.heap.size w w' := by
  have HC := Lib.hid (class_two w)
  have HA := Lib.hid ((Below.refl w.heap.size w).alloc (Nat.le_refl _) (.cells #[.int .u64 1, .int .u64 2048, .int .i64 9, .int .i64 9000, .int .u64 2, .int .u64 2048, .int .i64 9, .int .i64 9000] 46))
  go_enter Try.func9, Try.ntmps9
  go_wp2_with fail
  refine (new_walk (t := 5) HC.out (by decide) (by decide) (by decide)).mono ?_
  rintro e w1 h
  rcases h with ⟨h, -, -⟩ | ⟨-, p, O, v, ps, rfl, hM0⟩
  · exact absurd h (by decide)
  have HM0 : Hid (MineS _ w1 p O v ps S0) := Lib.hid hM0
  clear hM0
  unfold ptr
  go_wp2_with fail
  refine (Offer_ok 0 2048 (.slice none 0 0) [] HM0.out.is (c := 1) (L := newLn c2 5) (n := 0) rfl (S0_ok.ln _ S0_mem) (by decide) (by decide) (by decide) (holds_nil _) (fun h => absurd h (by decide)) (by decide)).mono ?_
  rintro e w2 ⟨rfl, O1, hI, hG⟩
  have HM1 : Hid (MineS _ w2 p O1 v ps S1) := Lib.hid (HM0.out.step hI hG)
  clear hI hG
  rw [show pushC (newLn c2 5).Q 2048 = 0 by decide]
  go_wp2_with fail
  refine (Offer_ok 0 2000 (.slice none 0 0) [] HM1.out.is (c := 0) (L := newLn c1 5) (n := 1) rfl (S1_ok.ln _ (List.mem_cons_self ..)) (by decide) (by decide) (by decide) (holds_nil _) (fun h => absurd h (by decide)) (by decide)).mono ?_
  rintro e w3 ⟨rfl, O2, hI, hG⟩
  have HM2 : Hid (MineS _ w3 p O2 v ps S2) := Lib.hid (HM1.out.step hI hG)
  clear hI hG
  rw [show pushC (newLn c1 5).Q 2000 = 0 by decide]
  go_wp2_with fail
  refine (Offer_ok 0 3 (.slice none 0 0) [] HM2.out.is (c := 1) (L := offL (newLn c2 5) 0 2048 []) (n := 2) rfl (S2_ok.ln _ (List.mem_cons_of_mem _ (List.mem_cons_self ..))) (by decide) (by decide) (by decide) (holds_nil _) (fun h => absurd h (by decide)) (by decide)).mono ?_
  rintro e w4 ⟨rfl, O3, hI, hG⟩
  have HM3 : Hid (MineS _ w4 p O3 v ps S3) := Lib.hid (HM2.out.step hI hG)
  clear hI hG
  rw [show pushC (offL (newLn c2 5) 0 2048 []).Q 3 = 0 by decide]
  go_wp2_with fail
  refine (Release_is (t := 5) HM3.out.is S3_ok (by decide)).mono ?_
  rintro e w5 ⟨O4, F, vo, xs, rfl, hR⟩
  have HM4 := Lib.hid (HM3.out.step hR.is hR.grow)
  have hl : (S3.rel 5).2 = works1 := rel_one
  rw [hl] at hR
  have HR := Lib.hid hR
  obtain ⟨g, cap, rfl, hg, hgl, hc⟩ := out_row hR.new (by decide)
  obtain ⟨a0, a1⟩ := hc 0 _ rfl
  obtain ⟨a5, a6⟩ := hc 1 _ rfl
  have h4 := S3_ok.rel (t := 5) (by decide)
  have HN := Lib.hid next_one
  have HL2 := Lib.hid rel_two
  clear hR hl hc
  generalize (S3.rel 5).1 = S4 at *
  rw [show works1.length = 2 from rfl]
  go_wp2_with fail
  refine (Next_is HM4.out.is h4).mono ?_
  rintro e w6 ⟨rfl, hB6⟩
  rw [HN.out]
  have HM6 := Lib.hid (HM4.out.below hB6)
  have h6 := HR.out.new.below hB6
  have HR6 := Lib.hid (And.intro h6 (And.intro HR.out.df HR.out.dv))
  clear HM4 h6 HR a0 a1 a5 a6 hB6
  go_wp2_with fail
  refine (Release_is (t := 9) HM6.out.is h4 (by decide)).mono ?_
  rintro e w7 ⟨O5, F2, vo2, xs2, rfl, hR⟩
  have HM7 := Lib.hid (HM6.out.step hR.is hR.grow)
  have h7 := HR6.out.1.keep hR.grow.only (fun k hk e => e (HR6.out.2.1 k hk)) (fun k hk e => e (HR6.out.2.2 k hk))
  rw [HL2.out] at hR
  obtain ⟨g', cap', e', hg', hgl', hc⟩ := out_row h7 (by decide)
  injection e' with e1 e2 e3
  injection e1 with e1
  injection e1 with e1
  subst e1
  clear e2 e3
  obtain ⟨a0, a1⟩ := hc 0 _ rfl
  obtain ⟨a5, a6⟩ := hc 1 _ rfl
  obtain ⟨g2, cap2, rfl, hg2, hgl2, hc2⟩ := out_row hR.new (by decide)
  obtain ⟨b0, b1⟩ := hc2 0 _ rfl
  have HB := Lib.hid (HA.out.trans (HM7.out.bel.mono HA.out.size))
  clear hR h7 hc hc2 h4 HR6 HL2 HN HM6 HM7
  rw [show [OutR.mk 7 1 ⟨0, 3, []⟩].length = 1 from rfl]
  go_wp2_with fail
  go_ret
  exact ⟨rfl, HB.out⟩
end Go.Proofs.Ythipfcmjpgbemaa
