/- The chapter's examples: walked. -/
import Derived.Test.YtcbkcalemfminaaRug
namespace Go.Proofs.Ytcbkcalemfminaa
open Go.RowKit
attribute [local go_sem ↓] load_ad load_pf load_ru load_ky load_bs build_pf build_ru build_cl build_ky rows_ru

def key1 : Ky := ⟨fourA 10 0 0 1, fourA 1 2 3 4, 6, 5, 80⟩
def key2 : Ky := ⟨fourA 10 0 0 1, fourA 1 2 3 4, 17, 5, 80⟩
def key3 : Ky := ⟨fourA 9 0 0 1, fourA 1 2 3 4, 17, 5, 80⟩
def Ky.zero : Ky := ⟨Ad.zero, Ad.zero, 0, 0, 0⟩
theorem f1_ok : (fourA 10 0 0 1).Ok := fourA_ok (by decide) (by decide) (by decide) (by decide)
theorem f2_ok : (fourA 1 2 3 4).Ok := fourA_ok (by decide) (by decide) (by decide) (by decide)
theorem f3_ok : (fourA 9 0 0 1).Ok := fourA_ok (by decide) (by decide) (by decide) (by decide)
theorem key1_ok : key1.Ok := ⟨f1_ok, f2_ok, by decide⟩
theorem key2_ok : key2.Ok := ⟨f1_ok, f2_ok, by decide⟩
theorem key3_ok : key3.Ok := ⟨f3_ok, f2_ok, by decide⟩
theorem built_key1 (w : World) : (buildRow 28 #[(0, .agg (fourA 10 0 0 1).arr), (1, .agg (fourA 1 2 3 4).arr), (2, .int .u8 6), (3, .int .u16 5), (4, .int .u16 80)]).run Try.prog w = .ok (.agg key1.arr) w := by
  unfold buildRow
  exact run_build w _ _ _ (by kernel_rfl)
theorem Ky.zero_arr : #[.bool false, .int .u8 0, .int .u8 0, .int .u8 0, .int .u8 0, .int .u8 0, .int .u8 0, .int .u8 0, .int .u8 0, .int .u8 0, .int .u8 0, .int .u8 0, .int .u8 0, .int .u8 0, .int .u8 0, .int .u8 0, .int .u8 0, .bool false, .int .u8 0, .int .u8 0, .int .u8 0, .int .u8 0, .int .u8 0, .int .u8 0, .int .u8 0, .int .u8 0, .int .u8 0, .int .u8 0, .int .u8 0, .int .u8 0, .int .u8 0, .int .u8 0, .int .u8 0, .int .u8 0, .int .u8 0, .int .u16 0, .int .u16 0] = Ky.zero.arr := rfl
theorem new_ok {w w' : World} {deny : Bool} {cls : Int} {l : List Ru} {e : Ending} (h : NewRes w deny cls l e w') (hl : l.length ≤ 64) (hf : (!(others deny cls).right || l.any fun r => !r.right) = false) :
    ∃ p, e = .returned (.tuple #[.pointer (some ⟨p, 0, none⟩), .int .i64 0]) ∧ IsC w' w.heap.size w'.heap.size p (others deny cls) l (List.replicate (l.length + 1) 0) ∧ Below w.heap.size w w' := by
  obtain ⟨hB, ⟨h1, _⟩ | ⟨_, h1, _⟩ | ⟨_, _, p, he, hC⟩⟩ := h
  · omega
  · rw [hf] at h1; exact absurd h1 (by decide)
  · exact ⟨p, he, hC, hB⟩
theorem told1 : toldRes (told [ruA, ruB] (others false 2) key1) = .returned (.tuple #[.int .i64 1, .int .i64 0]) := by kernel_rfl
theorem told2 : toldRes (told [ruA, ruB] (others false 2) key2) = .returned (.tuple #[.int .i64 0, .int .i64 90]) := by kernel_rfl
theorem told3 : toldRes (told [ruA, ruB] (others false 2) key3) = .returned (.tuple #[.int .i64 2, .int .i64 0]) := by kernel_rfl
theorem deads3 : deads [Ru.any, ruA, ruB] = [1, 2] := by kernel_rfl
theorem rights2 : (!(others false 2).right || [ruA, ruB].any fun r => !r.right) = false := by kernel_rfl
theorem rights3 : (!(others false 2).right || [Ru.any, ruA, ruB].any fun r => !r.right) = false := by kernel_rfl
theorem oks2 : ∀ r ∈ [ruA, ruB], r.Ok := fun r hr => (by simp at hr; rcases hr with rfl | rfl <;> first | exact ruA_ok | exact ruB_ok)
theorem oks3 : ∀ r ∈ [Ru.any, ruA, ruB], r.Ok := fun r hr => (by simp at hr; rcases hr with rfl | rfl | rfl <;> first | exact Ru.any_ok | exact ruA_ok | exact ruB_ok)

/-- The classifier, the rules, the packet, between the calls. -/
structure WSt (W w : World) (S T p g K : Nat) (hs : List Nat) (key : Ky) : Prop where
  c : IsC w S T p (others false 2) [ruA, ruB] hs
  row : w.heap[g]? = some (.cells (rsCells [ruA, ruB]).toArray 43 (0, 0))
  kb : w.heap[K]? = some (.cells key.arr 28 (0, 0))
  bel : Below W.heap.size W w
  l1 : g < S
  l2 : T ≤ K
  l3 : W.heap.size ≤ S
theorem WSt.only {W w w' : World} {S T p g K : Nat} {hs : List Nat} {key : Ky} (h : WSt W w S T p g K hs key) (hB : Below w.heap.size w w') : WSt W w' S T p g K hs key :=
  ⟨h.c.below hB, (hB.block _ (lt_of_obj h.row)).trans h.row, (hB.block _ (lt_of_obj h.kb)).trans h.kb, h.bel.trans (hB.mono h.bel.size), h.l1, h.l2, h.l3⟩
theorem WSt.key {W w w' : World} {S T p g K : Nat} {hs : List Nat} {key key' : Ky} (h : WSt W w S T p g K hs key) (hk : w'.heap[K]? = some (.cells key'.arr 28 (0, 0))) (hO : Only (fun k => k = K) w w') : WSt W w' S T p g K hs key' :=
  ⟨h.c.only hO (fun k _ hk e => by have := h.l2; omega), hO.keep h.row (by have := h.l1; have := h.l2; have := h.c.bp; omega), hk, h.bel.trans (hO.below h.bel.size (fun k hk e => by have := h.l2; have := h.l3; have := h.c.bp; omega)), h.l1, h.l2, h.l3⟩
theorem class_w {W w : World} {S T p g K : Nat} {hs : List Nat} {key : Ky} (h : WSt W w S T p g K hs key) (hk : key.Ok) :
    Calls Try.prog 8 #[.pointer (some ⟨p, 0, none⟩), .agg key.arr] w fun e w' => e = toldRes (told [ruA, ruB] (others false 2) key) ∧ ∃ hs', WSt W w' S T p g K hs' key :=
  (class_is h.c hk (by decide) (Nat.le_trans (Nat.le_of_lt (Nat.lt_of_le_of_lt h.c.bp.1 h.c.bp.2)) h.c.top)).mono fun e w' ⟨he, hC, hO⟩ => ⟨he, _,
    hC, hO.keep h.row (fun e => by have := h.l1; omega), hO.keep h.kb (fun e => by have := h.l2; omega), h.bel.trans (hO.below h.bel.size (fun k hk e => by have := h.l3; omega)), h.l1, h.l2, h.l3⟩

set_option maxRecDepth 100000 in
set_option maxHeartbeats 4000000 in
theorem works_any (w : World) :
    Calls Try.prog 6 #[] w fun e w' => e = .returned (.bool true) ∧ Below w.heap.size w w' := by
  go_enter Try.func6, Try.ntmps6
  go_wp2_with fail
  refine (sample_is _).mono ?_
  rintro e w1 ⟨g, rfl, hg1, hB1⟩
  have hR1 := rules_blk oks2 hg1 2
  have HN1 := Lib.hid (new_is false 2 hR1 (by decide))
  have H1 := Lib.hid (And.intro hg1 hB1)
  have hgl := lt_of_obj hg1
  clear hR1 hg1 hB1
  go_wp2_with fail
  refine HN1.out.mono ?_
  intro e w2 hN
  obtain ⟨p, rfl, hC2, hB2⟩ := new_ok hN (by decide) rights2
  clear hN HN1
  have hg2 := (hB2.block _ hgl).trans H1.out.1
  have hB2' := H1.out.2.trans (hB2.mono H1.out.2.size)
  have H2 := Lib.hid (And.intro hC2 (And.intro hg2 hB2'))
  have hgw := hgl
  generalize hS1 : w1.heap.size = S1 at *
  have HS1 := Lib.hid hS1
  have hs1 : w.heap.size ≤ S1 := by have := H1.out.2.size; omega
  have hs2 := hB2.size
  clear hC2 hg2 hB2' hB2 hS1 H1
  go_wp2_with fail
  refine (four_is (a := 10) (b := 0) (c := 0) (d := 1) (by decide) (by decide) (by decide) (by decide) _).mono ?_
  rintro e w3 ⟨rfl, hB3⟩
  go_wp2_with fail
  refine (four_is (a := 1) (b := 2) (c := 3) (d := 4) (by decide) (by decide) (by decide) (by decide) _).mono ?_
  rintro e w4 ⟨rfl, hB4⟩
  have hB24 := hB3.trans (hB4.mono hB3.size)
  have H4 := Lib.hid hB24
  have hk1 := built_key1
  have hs4 := hB24.size
  clear hB3 hB4 hB24
  go_wp2_with (first | (refine wpList_store_blk rfl 28 (.tmp 4) (.tmp 22) rfl w4.heap.size key1.arr rfl rfl 28 Ky.zero.arr (alloc_block_new w4 (.cells Ky.zero.arr 28)) (by kernel_rfl) rfl (by kernel_rfl) ?_))
  intro w5 hS5
  have hB5 : Below w4.heap.size w4 w5 := ((Below.refl _ _).alloc (Nat.le_refl _) (.cells Ky.zero.arr 28)).trans (hS5.only.below (by simp) (fun k hk e => by omega))
  have W5 : WSt w w5 S1 w2.heap.size p g w4.heap.size (List.replicate ([ruA, ruB].length + 1) 0) key1 := by
    have hB25 := H4.out.trans (hB5.mono hs4)
    exact ⟨H2.out.1.below hB25, (hB25.block _ (lt_of_obj H2.out.2.1)).trans H2.out.2.1, hS5.blk, H2.out.2.2.trans (hB25.mono H2.out.2.2.size), hgw, hs4, hs1⟩
  generalize w2.heap.size = S2 at *
  generalize w4.heap.size = K at *
  have H5 := Lib.hid W5
  have l5 := row_ky key1_ok (range_block W5.kb)
  clear hS5 hB5 W5 H4 H2 hk1
  go_wp2_with fail
  refine (class_w H5.out key1_ok).mono ?_
  rintro e w6 ⟨rfl, hs6, W6⟩
  rw [told1]
  have y34 : w6.cell? ⟨K, 34, none⟩ = some (.int .u8 6) := cell_of_block W6.kb 34
  have z34 : w6.frozen? ⟨K, 34, none⟩ = false := free_of_block W6.kb 34
  have H6 := Lib.hid W6
  clear W6 H5 l5
  go_upto_region 6 with (fail)
  have hk7 : (w6.setCell ⟨K, 34, none⟩ (.int .u8 17)).heap[K]? = some (.cells key2.arr 28 (0, 0)) := setCell_block H6.out.kb 34 (.int .u8 17)
  have W7 := H6.out.key hk7 (Only.setCell (S := fun k => k = K) (p := ⟨K, 34, none⟩) (Only.refl _ w6) (fun _ => rfl) _)
  generalize w6.setCell ⟨K, 34, none⟩ (.int .u8 17) = w7 at *
  have l7 := row_ky key2_ok (range_block hk7)
  have H7 := Lib.hid W7
  clear y34 z34 hk7 W7 H6
  go_wp2_with fail
  refine (class_w H7.out key2_ok).mono ?_
  rintro e w8 ⟨rfl, hs8, W8⟩
  rw [told2]
  have H8 := Lib.hid W8
  clear W8 H7 l7
  go_wp2_with fail
  refine (four_is (a := 9) (b := 0) (c := 0) (d := 1) (by decide) (by decide) (by decide) (by decide) _).mono ?_
  rintro e w9 ⟨rfl, hB9⟩
  have H9 := Lib.hid (H8.out.only hB9)
  clear hB9 H8
  go_wp2_with (first | (refine wpList_store_at rfl 25 (.tmp 37) (.tmp 36) rfl K 0 (.agg (fourA 9 0 0 1).arr) rfl rfl 28 key2.arr H9.out.kb (fourA 9 0 0 1).cs rfl (by kernel_rfl) (by decide) (Ad.one _) ?_))
  intro w10 hS10
  have hk10 : w10.heap[K]? = some (.cells key3.arr 28 (0, 0)) := hS10.blk
  have W10 := H9.out.key hk10 hS10.only
  have l10 := row_ky key3_ok (range_block hk10)
  have H10 := Lib.hid W10
  clear hS10 hk10 W10 H9
  go_wp2_with fail
  refine (class_w H10.out key3_ok).mono ?_
  rintro e w11 ⟨rfl, hs11, W11⟩
  rw [told3]
  have hrg := range_block W11.row
  have hgl11 := lt_of_obj W11.row
  have hra : w11.rangeAt g 0 ruA.cs := (rs_part oks2 hrg 0 ruA rfl).2
  have hrb : w11.rangeAt g 44 ruB.cs := (rs_part oks2 hrg 1 ruB rfl).2
  have H11 := Lib.hid W11.bel
  have HR11 := Lib.hid (And.intro hra hrb)
  clear W11 H10 l10 hrg hra hrb
  go_wp2_with fail
  have k0 : ∀ w' : World, w'.rangeAt g 0 ruA.cs → (loadRow 43 (.pointer (some ⟨g, 0, none⟩))).run Try.prog w' = .ok (.agg ruA.arr) w' := fun w' h => row_ru ruA_ok h
  have k1 : ∀ w' : World, w'.rangeAt g 44 ruB.cs → (loadRow 43 (.pointer (some ⟨g, 44, none⟩))).run Try.prog w' = .ok (.agg ruB.arr) w' := fun w' h => row_ru ruB_ok h
  have hbt := built_three
  go_region_held3 (fun w' => w'.rangeAt g 0 ruA.cs ∧ w'.rangeAt g 44 ruB.cs) (constructor <;> first | assumption | exact HR11.out.1 | exact HR11.out.2 | exact range_alloc ra12 hg12 _ | exact range_alloc rb12 hg12 _)
    (first
      | (go_at_call 10; refine Calls.mono (any_is _) ?_; rintro e w12 ⟨rfl, hB12⟩
         have hB12' : Below w11.heap.size w11 w12 := (Below.refl w11.heap.size w11).drew.trans hB12
         have ra12 := range_below HR11.out.1 hgl11 hB12'
         have rb12 := range_below HR11.out.2 hgl11 hB12'
         have hg12 : g < w12.heap.size := by have := hB12'.size; omega
         have HB12 := Lib.hid (H11.out.trans (hB12'.mono H11.out.size)); clear hB12 hB12')
      | (go_at_call 7; refine Calls.mono (new_is false 2 (rules_blk oks3 (alloc_block_new w12 (.cells (rsCells [Ru.any, ruA, ruB]).toArray 43)) 3) (by decide)) ?_; intro e w13 hN
         obtain ⟨d, rfl, hC13, hB13⟩ := new_ok hN (by decide) rights3
         have ra13 := range_below (range_alloc ra12 hg12 (.cells (rsCells [Ru.any, ruA, ruB]).toArray 43)) (by simp; omega) hB13
         have rb13 := range_below (range_alloc rb12 hg12 (.cells (rsCells [Ru.any, ruA, ruB]).toArray 43)) (by simp; omega) hB13
         have H13 := Lib.hid (And.intro hC13 ((HB12.out.alloc HB12.out.size _).trans (hB13.mono (by have := HB12.out.size; simp; omega)))); clear hN hC13 hB13))
  all_goals
    have hD := Lib.hid (dead_is H13.out.1 (by decide))
    rw [deads3] at hD
    clear ra12 rb12 ra13 rb13 hg12 k0 k1 hbt
    go_wp2_with fail
    refine hD.out.mono ?_
    rintro e w14 ⟨v, rfl, hown, hB14⟩
    rcases hown.2 with ⟨_, h0⟩ | ⟨q, cap, cur, rfl, hqB, hqh, hc1, hc2, hc3, hc4⟩
    · exact absurd h0 (by decide)
    · have e0 : cur[0]? = some (.int .i64 1) := by
        have : (cur.toList.take 2)[0]? = some (.int .i64 1) := by rw [show (2 : Nat) = [1, 2].length * 1 from rfl, hc4]; rfl
        rw [List.getElem?_take_of_lt (by decide)] at this
        simpa using this
      have e1 : cur[1]? = some (.int .i64 2) := by
        have : (cur.toList.take 2)[1]? = some (.int .i64 2) := by rw [show (2 : Nat) = [1, 2].length * 1 from rfl, hc4]; rfl
        rw [List.getElem?_take_of_lt (by decide)] at this
        simpa using this
      have q0 : w14.cell? ⟨q, 0, none⟩ = some (.int .i64 1) := (cell_of_block hqh 0).trans e0
      have q1 : w14.cell? ⟨q, 1, none⟩ = some (.int .i64 2) := (cell_of_block hqh 1).trans e1
      have HF := Lib.hid (H13.out.2.trans (hB14.mono H13.out.2.size))
      clear hown e0 e1 hqh hc1 hc2 hc3 hc4 hB14 hD H13
      go_wp2_with fail
      go_ret
      exact ⟨rfl, HF.out⟩

set_option maxRecDepth 100000 in
theorem none_any {k : Ky} (hk : k.Ok) (w : World) :
    Calls Try.prog 4 #[.agg k.arr] w fun e w' => e = .returned (.bool true) ∧ Below w.heap.size w w' := by
  go_enter Try.func4, Try.ntmps4
  go_upto_region 2 with (fail)
  have hB : Below w.heap.size w (w.alloc (.cells k.arr 28)) := (Below.refl _ _).alloc (Nat.le_refl _) _
  have g0 := alloc_block_new w (.cells k.arr 28)
  generalize w.alloc (.cells k.arr 28) = w1 at *
  have K1 : KyAt w1 w.heap.size k := ⟨hk, lt_of_obj g0, range_block g0⟩
  generalize hbb : w.heap.size = b at *
  have H1 := Lib.hid (And.intro hbb (And.intro hB K1))
  have l1 := row_ky hk K1.rng
  have hbl := K1.lt
  clear hB g0 K1 hbb
  go_wp2_with fail
  refine (class_nil _).mono ?_
  rintro e w2 ⟨rfl, hB2⟩
  have l2 := row_ky hk (H1.out.2.2.below hB2).rng
  have H2 := Lib.hid hB2
  clear hB2 l1
  go_wp2_with fail
  refine (which_nil _).mono ?_
  rintro e w3 ⟨rfl, hB3⟩
  have H3 := Lib.hid (H2.out.trans (hB3.mono H2.out.size))
  clear hB3 l2
  go_wp2_with fail
  refine (hits_nil _).mono ?_
  rintro e w4 ⟨rfl, hB4⟩
  have H4 := Lib.hid (H3.out.trans (hB4.mono H3.out.size))
  clear hB4
  go_wp2_with fail
  refine (dead_nil _).mono ?_
  rintro e w5 ⟨rfl, hB5⟩
  have H5 := Lib.hid (H4.out.trans (hB5.mono H4.out.size))
  clear hB5
  go_wp2_with fail
  refine (works_any _).mono ?_
  rintro e w6 ⟨rfl, hB6⟩
  go_wp2_with fail
  go_ret
  exact ⟨rfl, by rw [H1.out.1]; exact H1.out.2.1.trans ((H5.out.trans (hB6.mono H5.out.size)).mono (by omega))⟩
end Go.Proofs.Ytcbkcalemfminaa
