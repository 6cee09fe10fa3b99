/- The document's disk: Fates, Crash, walked. -/
import Derived.Test.YtbgjahgmkbbgjaaDr3
namespace Go.Proofs.Ytbgjahgmkbbgjaa
open Go.RowKit

/-- Fates as cells. -/
def fCells : List (Int × Int) → List Value
  | [] => []
  | (k, a) :: L => .int .i64 k :: .int .i64 a :: fCells L
theorem fCells_len (L : List (Int × Int)) : (fCells L).length = L.length * 2 := by
  induction L with
  | nil => rfl
  | cons x L ih => obtain ⟨a, d⟩ := x; simp only [fCells, List.length_cons, ih]; omega
theorem fCells_snoc (L : List (Int × Int)) (k a : Int) : fCells L ++ [.int .i64 k, .int .i64 a] = fCells (L ++ [(k, a)]) := by
  induction L with
  | nil => rfl
  | cons y L ih => obtain ⟨a, d⟩ := y; simp only [fCells, List.cons_append, ih]
theorem fCells_get : ∀ (L : List (Int × Int)) (i : Nat) (k a : Int), L[i]? = some (k, a) → (fCells L)[i * 2]? = some (.int .i64 k) ∧ (fCells L)[i * 2 + 1]? = some (.int .i64 a)
  | [], i, k, a, h => by simp at h
  | (b, e) :: L, 0, k, a, h => by
    simp at h
    obtain ⟨rfl, rfl⟩ := h
    exact ⟨rfl, rfl⟩
  | (b, e) :: L, i + 1, k, a, h => by
    have ih := fCells_get L i k a (by simpa using h)
    rw [show (i + 1) * 2 = i * 2 + 2 by omega]
    exact ih
/-- An owned row of fates. -/
theorem fates_own {w : World} {B : Nat} {e : TypeId} {v : Value} {fs : List (Int × Int)} (h : w.ownsRow B e 2 v fs.length (fCells fs)) : Fates w v fs := by
  rcases h.2 with ⟨hv, h0⟩ | ⟨g, cap, cur, hv, hg, hh, hnc, hcm, hcs, hx⟩
  · exact ⟨none, 0, by rw [hv, h0], fun h => absurd h (by omega)⟩
  · refine ⟨_, cap, hv, fun _ => ⟨g, 0, rfl, lt_of_obj hh, fun j k a hj => ?_⟩⟩
    have hjl := (List.getElem?_eq_some_iff.1 hj).1
    obtain ⟨k0, k1⟩ := fCells_get fs j k a hj
    rw [← hx] at k0 k1
    rw [List.getElem?_take_of_lt (by omega)] at k0 k1
    rw [Nat.zero_add]
    exact ⟨(cell_of_block hh _).trans (by simpa using k0), (cell_of_block hh _).trans (by simpa using k1)⟩
theorem own_raise {w : World} {base base' : Nat} {e : TypeId} {size : Nat} {v : Value} {n : Nat} {xs : List Value} (h : w.ownsRow base e size v n xs) (hb : ∀ k, v.ownBlock = some k → base' ≤ k) : w.ownsRow base' e size v n xs := by
  refine ⟨h.1, ?_⟩
  rcases h.2 with hn | ⟨g, cap, cur, hv, hg, rest⟩
  · exact .inl hn
  · exact .inr ⟨g, cap, cur, hv, hb g (by rw [hv]; rfl), rest⟩
theorem info_rf : (Try.prog.info? 82).map (fun i => (i.zero, i.size, i.bytes)) = some (some (.agg #[.int .i64 0, .int .i64 0]), 2, 16) := by kernel_rfl

/-- Ahead of each round of Fates. -/
def FRel (W : World) (fs : List (Int × Int)) (v i : Value) (w : World) : Prop :=
  ∃ k : Nat, i = .int .i64 k ∧ k ≤ fs.length ∧ Below W.heap.size W w ∧ w.ownsRow W.heap.size 82 2 v k (fCells (fs.take k))

set_option maxRecDepth 100000 in
set_option maxHeartbeats 1000000 in
theorem fates_is {w : World} {v : Value} {fs : List (Int × Int)} (h : Fates w v fs) (hl : fs.length ≤ 1000000) :
    Calls Try.prog 38 #[v] w fun e w' => ∃ v', e = .returned v' ∧ w'.ownsRow w.heap.size 82 2 v' fs.length (fCells fs) ∧ Below w.heap.size w w' := by
  have HH := Lib.hid h
  obtain ⟨ao, cap, rfl, hx⟩ := h
  have HX := Lib.hid hx
  obtain ⟨i0, hi, hz0, hz1, hz2⟩ := info_parts info_rf
  have HI := Lib.hid (And.intro hi (And.intro hz0 (And.intro hz1 hz2)))
  clear hx hi hz0 hz1 hz2
  go_enter Try.func38, Try.ntmps38
  go_wp2_with fail
  go_loopw [3, 4] (FRel w fs) (fun _ i _ => fs.length - (intOf i).toNat)
  case atStart => exact ⟨0, rfl, Nat.zero_le _, Below.refl _ _, World.ownsRow_nil _ _ _ _⟩
  case round =>
    obtain ⟨k, rfl, hk, hB, hO⟩ := hrel
    by_cases hlt : k < fs.length
    · obtain ⟨⟨K, A⟩, hxk⟩ : ∃ x, fs[k]? = some x := ⟨_, List.getElem?_eq_getElem hlt⟩
      obtain ⟨b, o, rfl, hb, hc⟩ := HX.out (by omega)
      obtain ⟨c0, c1⟩ := hc k K A hxk
      have x0 := (hB.cell (p := ⟨b, o + k * 2, none⟩) hb).trans c0
      have x1 := (hB.cell (p := ⟨b, o + k * 2 + 1, none⟩) hb).trans c1
      obtain ⟨va, vc, ev⟩ := own_shape hO
      subst ev
      have hlk : (fs.take k).length = k := by rw [List.length_take]; omega
      have hsn : fCells (fs.take k) ++ [.int .i64 K, .int .i64 A] = fCells (fs.take (k + 1)) := by rw [fCells_snoc, List.take_add_one, hxk]; rfl
      have HSN := Lib.hid hsn
      have HO := Lib.hid hO
      have HB := Lib.hid hB
      have hbw : b < wr.heap.size := Nat.lt_of_lt_of_le hb hB.size
      have hsz := hB.size
      have j0 : (0 : Int) ≤ (k : Int) := by omega
      have j1 : (k : Int) < (fs.length : Int) := by omega
      obtain ⟨hi, hz0, hz1, hz2⟩ := HI.out
      clear hc c0 c1 hsn hO hB hxk hlk
      go_wp2_with fail
      go_region_held3 (fun w' => w'.cell? ⟨b, o + k * 2, none⟩ = some (.int .i64 K) ∧ w'.cell? ⟨b, o + k * 2 + 1, none⟩ = some (.int .i64 A)) (go_keep)
        ((refine step_append_row rfl (.tmp 11) (.tmp 23) 73 rfl 82 i0 (.agg #[.int .i64 0, .int .i64 0]) 2 16 Try.underlying73 hi hz0 hz1 hz2 rfl (by decide) (.slice va k vc) k (fCells (fs.take k)) rfl ((own_lower HO.out (Nat.zero_le _)).alloc _) ⟨wr.heap.size, 0, none⟩ 1 1 [.int .i64 K, .int .i64 A] rfl rfl (two_newd _ _ _ _) (by intro u hu; simp at hu; rcases hu with rfl | rfl <;> rfl) (by unfold maxLen; omega) (by omega) ?_; intro v' w' hown' hg' hb'; obtain ⟨va', vc', rfl⟩ := own_shape hown'; have hgg : Only (fun k' => (Value.slice va k vc).ownBlock = some k') wr w' := (Below.only ((Below.refl wr.heap.size wr).alloc (Nat.le_refl _) (.cells #[.int .i64 K, .int .i64 A] 82)).drew _).trans ((Only.refl _ _).grown hg' (fun k hk _ => hk)); have hbelow := hgg.below (B := w.heap.size) hsz (fun k' hk' e => by have := own_ge HO.out k' e; omega); have y0 : w'.cell? ⟨b, o + k * 2, none⟩ = some (.int .i64 K) := (hbelow.cell (p := ⟨b, o + k * 2, none⟩) (by first | assumption | exact hb)).trans x0; have y1 : w'.cell? ⟨b, o + k * 2 + 1, none⟩ = some (.int .i64 A) := (hbelow.cell (p := ⟨b, o + k * 2 + 1, none⟩) (by first | assumption | exact hb)).trans x1; have HBL := Lib.hid hbelow; have HW := Lib.hid hown'; have HN := Lib.hid hb'; clear hg' hown' hb' hgg hbelow))
      all_goals
        have hw := HW.out
        rw [HSN.out] at hw
        have hge : ∀ j, (Value.slice va' (k + 1) vc').ownBlock = some j → w.heap.size ≤ j := fun j hj => by
          rcases HN.out with e | e
          · exact own_ge HO.out j (by rw [← e]; exact hj)
          · rw [hj] at e
            injection e with e
            have hx : (wr.alloc (.cells #[.int .i64 K, .int .i64 A] 82)).drew.heap.size = wr.heap.size + 1 := by simp
            omega
        have hw2 := own_raise hw hge
        have HF := Lib.hid (And.intro (HB.out.trans HBL.out) hw2)
        clear hw hge hw2 HW HN HBL HO HB hi hz0 hz1 hz2
        go_wp2_with fail
        go_roundw
        case rel => exact ⟨k + 1, by go_num, by omega, HF.out.1, HF.out.2⟩
        case measure => simp [intOf]; omega
    · have hkl : fs.take k = fs := List.take_of_length_le (by omega)
      have hkn : k = fs.length := by omega
      rw [hkl, hkn] at hO
      obtain ⟨va, vc, ev⟩ := own_shape hO
      subst ev
      have HO := Lib.hid hO
      have HB := Lib.hid hB
      clear hkl hkn hO hB
      go_wp2_with fail
      go_ret
      exact ⟨_, rfl, HO.out, HB.out⟩

/-- Ahead of each round of Crash. -/
def RCRel (w1 : World) (dur : List Nat) (L : List (Nat × List Nat)) (fs : List (Int × Int)) (b i : Value) (wr : World) : Prop :=
  ∃ k : Nat, i = .int .i64 k ∧ b = .string (str8 (cr (am fs) dur (L.take k) 0)) ∧ k ≤ L.length ∧ Below w1.heap.size w1 wr

set_option maxRecDepth 100000 in
set_option maxHeartbeats 2000000 in
theorem rcrash_is (dur : List Nat) {w : World} {B : Nat} {v fv : Value} {L : List (Nat × List Nat)} {fs : List (Int × Int)} (h : RW w B v L) (hf : Fates w fv fs) (hN : dur.length ≤ 65536) (hL : Lie dur.length L) (hl : L.length ≤ 1000000) (hfl : fs.length ≤ 1000000) :
    Calls Try.prog 37 #[rd dur v, fv] w fun e w' => e = .returned (rd (cr (am fs) dur L 0) (.slice none 0 0)) ∧ Below w.heap.size w w' := by
  obtain ⟨ao, c, rfl⟩ := h.shape
  obtain ⟨fo, fc, efv, _⟩ := id hf
  subst efv
  have hB : Below w.heap.size w ((w.alloc (.cells #[.string (str8 dur), .slice ao L.length c] 66)).alloc (.cells #[.string ⟨#[]⟩, .slice none 0 0] 66)) := ((Below.refl _ _).alloc (Nat.le_refl _) _).alloc (by simp) _
  have hg0 : ((w.alloc (.cells #[.string (str8 dur), .slice ao L.length c] 66)).alloc (.cells #[.string ⟨#[]⟩, .slice none 0 0] 66)).heap[w.heap.size]? = some (.cells #[.string (str8 dur), .slice ao L.length c] 66 (0, 0)) := (alloc_block_old _ (by simp)).trans (alloc_block_new w _)
  have hg1 : ((w.alloc (.cells #[.string (str8 dur), .slice ao L.length c] 66)).alloc (.cells #[.string ⟨#[]⟩, .slice none 0 0] 66)).heap[w.heap.size + 1]? = some (.cells #[.string ⟨#[]⟩, .slice none 0 0] 66 (0, 0)) := alloc_block_at _ _ (by simp)
  have HR := Lib.hid (h.below hB)
  have HF := Lib.hid (hf.below hB)
  have HLI := Lib.hid hL
  unfold rd at *
  have HS : Hid (cr (am fs) dur L 0 = cr (am fs) dur L 0) := rfl
  have H := Lib.hid (And.intro hB (And.intro hg0 hg1))
  clear h hf hB hg0 hg1 hL HS
  obtain ⟨sf, esf⟩ : ∃ s, str8 (cr (am fs) dur L 0) = s := ⟨_, rfl⟩
  rw [esf]
  have HSF := Lib.hid esf
  clear esf
  go_enter Try.func37, Try.ntmps37
  go_wp2_with fail
  generalize (w.alloc (.cells #[.string (str8 dur), .slice ao L.length c] 66)).alloc (.cells #[.string ⟨#[]⟩, .slice none 0 0] 66) = w1 at *
  obtain ⟨g0, eg0⟩ : ∃ t, w.heap.size = t := ⟨_, rfl⟩
  obtain ⟨g1, eg1⟩ : ∃ t, g0 + 1 = t := ⟨_, rfl⟩
  rw [eg0] at H ⊢
  rw [eg1] at H ⊢
  have HGE : Hid (g0 = w.heap.size ∧ w.heap.size ≤ g1) := ⟨eg0.symm, by omega⟩
  clear eg0 eg1
  go_loopw [5, 6] (RCRel w1 dur L fs) (fun _ i _ => L.length - (intOf i).toNat)
  case atStart => exact ⟨0, rfl, rfl, Nat.zero_le _, Below.refl _ _⟩
  case round =>
    obtain ⟨k, rfl, rfl, hk, hBr⟩ := hrel
    have hgr := (hBr.block g0 (lt_of_obj H.out.2.1)).trans H.out.2.1
    have hgl := lt_of_obj hgr
    by_cases hlt : k < L.length
    · obtain ⟨⟨a, d⟩, hx⟩ : ∃ x, L[k]? = some x := ⟨_, List.getElem?_eq_getElem hlt⟩
      obtain ⟨rg, rfl, x0, x1⟩ := (HR.out.below hBr).at hx
      have q1 : wr.cell? ⟨g0, 1, none⟩ = some (.slice (some ⟨rg, 0, none⟩) L.length c) := cell_of_block hgr 1
      have hsd := str8_size d
      have HBR := Lib.hid hBr
      have HX := Lib.hid hx
      have hd65 : d.length ≤ 65536 := by have := HLI.out (a, d) (List.mem_of_getElem? hx); simp only at this; omega
      clear hBr hgr hx
      cases hfk : fs[k]? with
      | none =>
        have hkf : fs.length ≤ k := by
          rcases Nat.lt_or_ge k fs.length with h | h
          · rw [List.getElem?_eq_getElem h] at hfk; cases hfk
          · exact h
        have HFK := Lib.hid hfk
        have dkf : decide (k < fs.length) = false := decide_eq_false (by omega)
        have dkf' : decide ((k : Int) < (fs.length : Int)) = false := decide_eq_false (by omega)
        clear hfk
        go_wp2_with fail
        clear dkf dkf' x0 x1 q1
        have hm : am fs k d = 0 := by unfold am; rw [HFK.out]
        have hBt : Below (wr.alloc (.cells #[.int .i64 a, .string (str8 d)] 81)).heap.size (wr.alloc (.cells #[.int .i64 a, .string (str8 d)] 81)) (wr.alloc (.cells #[.int .i64 a, .string (str8 d)] 81)) := Below.refl _ _
        have hBb : Below wr.heap.size wr (wr.alloc (.cells #[.int .i64 a, .string (str8 d)] 81)) := (Below.refl _ _).alloc (Nat.le_refl _) _
        have hgb := (hBt.block wr.heap.size (lt_of_obj (alloc_block_new wr _))).trans (alloc_block_new wr (.cells #[.int .i64 a, .string (str8 d)] 81))
        have hnl : (cr (am fs) dur (L.take k) 0).length = dur.length := cr_len _ _ _ _ (lie_take HLI.out k)
        have hlie : a + d.length ≤ dur.length := HLI.out (a, d) (List.mem_of_getElem? HX.out)
        have HLA : Hid (∀ (z : World) (sx : ByteArray), sx = str8 (d.take (0)) → Calls Try.prog 44 #[.string (str8 (cr (am fs) dur (L.take k) 0)), .int .i64 a, .string sx] z fun e w' => e = .returned (.string (str8 (cr (am fs) dur (L.take (k + 1)) 0))) ∧ ∃ n, w' = z.drewN n) := fun z sx hsx => by
          have htl : (d.take (0)).length ≤ d.length := by simp only [List.length_take]; omega
          rw [hsx, ← cr_next HX.out hm]
          exact rlaid_is _ (d.take (0)) a (by rw [hnl]; omega) (by rw [hnl]; exact hN) z
        have HBT := Lib.hid (HBR.out.trans ((hBb.trans (hBt.mono hBb.size)).mono HBR.out.size))
        generalize (wr.alloc (.cells #[.int .i64 a, .string (str8 d)] 81)) = wt at *
        generalize wr.heap.size = gb at *
        have hgbl := lt_of_obj hgb
        have k1 : ∀ z : Wld (fun x => Below wt.heap.size wt x), z.w.cell? ⟨gb, 0, none⟩ = some (.int .i64 a) := fun z => (z.ok.cell (p := ⟨gb, 0, none⟩) hgbl).trans (cell_of_block hgb 0)
        have k2 : ∀ z : Wld (fun x => Below wt.heap.size wt x), z.w.cell? ⟨gb, 1, none⟩ = some (.string (str8 d)) := fun z => (z.ok.cell (p := ⟨gb, 1, none⟩) hgbl).trans (cell_of_block hgb 1)
        haveI hne : Nonempty (Wld (fun x => Below wt.heap.size wt x)) := ⟨⟨wt, Below.refl _ _⟩⟩
        clear hBt hBb hgb hnl hm
        refine region_class (fun x => Below wt.heap.size wt x) (by kernel_rfl) (by kernel_rfl) (Below.refl _ _).drew ?_
        repeat (go_big_quiet_step ((rename_i z; go_at_call 44; ((refine Calls.mono (HLA.out z.w _ ?_) (fun e w' ⟨he, n, hn⟩ => ⟨he, ⟨w', by rw [hn]; exact z.ok.trans ((below_drewN (Below.refl _ _) n).mono z.ok.size)⟩, rfl⟩)); first | (rw [str8_extract, List.drop_zero, Nat.sub_zero]; done) | (rw [List.take_zero, str8_empty]; rfl) | (rw [List.take_length]; done)))))
        refine wpQuiet_nil ?_
        intro w3 hB3
        have HB3 := Lib.hid (HBT.out.trans (hB3.mono HBT.out.size))
        clear k1 k2 hne HLA hB3 hgbl
        go_wp2_with fail
        go_roundw
        case rel => first | exact ⟨k + 1, by go_num, rfl, by omega, HB3.out⟩ | ((repeat apply Exists.intro); exact ⟨⟨k + 1, by go_num, rfl, by omega, HB3.out⟩, rfl⟩)
        case measure => simp [intOf]; omega
      | some x =>
        obtain ⟨K, A⟩ := x
        have hkl : k < fs.length := (List.getElem?_eq_some_iff.1 hfk).1
        obtain ⟨fo', fc', efv, hff⟩ := HF.out
        injection efv with e1 e2 e3
        subst e1 e3
        clear e2
        obtain ⟨b, o, rfl, hb, hcc⟩ := hff (by omega)
        obtain ⟨f0, f1⟩ := hcc k K A hfk
        have x2 := (HBR.out.cell (p := ⟨b, o + k * 2, none⟩) hb).trans f0
        have x3 := (HBR.out.cell (p := ⟨b, o + k * 2 + 1, none⟩) hb).trans f1
        have hbw : b < wr.heap.size := Nat.lt_of_lt_of_le hb HBR.out.size
        have HFK := Lib.hid hfk
        clear hff hcc f0 f1 hfk hb
        have y2 : (wr.alloc (.cells #[.int .i64 a, .string (str8 d)] 81)).cell? ⟨b, o + k * 2, none⟩ = some (.int .i64 K) := (((Below.refl wr.heap.size wr).alloc (Nat.le_refl _) (.cells #[.int .i64 a, .string (str8 d)] 81)).cell (p := ⟨b, o + k * 2, none⟩) hbw).trans x2
        have y3 : (wr.alloc (.cells #[.int .i64 a, .string (str8 d)] 81)).cell? ⟨b, o + k * 2 + 1, none⟩ = some (.int .i64 A) := (((Below.refl wr.heap.size wr).alloc (Nat.le_refl _) (.cells #[.int .i64 a, .string (str8 d)] 81)).cell (p := ⟨b, o + k * 2 + 1, none⟩) hbw).trans x3
        have j0 : (0 : Int) ≤ (k : Int) := by omega
        have j1 : (k : Int) < (fs.length : Int) := by omega
        have dk : decide ((k : Int) < (fs.length : Int)) = true := decide_eq_true j1
        have dl : decide (k < fs.length) = true := decide_eq_true hkl
        clear x2 x3
        by_cases hK1 : K = 1
        · subst hK1
          go_wp2_with fail
          clear y2 y3 x0 x1 q1
          have hm : am fs k d = d.length := by unfold am; rw [HFK.out]; rfl
          have hBt : Below (wr.alloc (.cells #[.int .i64 a, .string (str8 d)] 81)).heap.size (wr.alloc (.cells #[.int .i64 a, .string (str8 d)] 81)) (wr.alloc (.cells #[.int .i64 a, .string (str8 d)] 81)) := Below.refl _ _
          have hBb : Below wr.heap.size wr (wr.alloc (.cells #[.int .i64 a, .string (str8 d)] 81)) := (Below.refl _ _).alloc (Nat.le_refl _) _
          have hgb := (hBt.block wr.heap.size (lt_of_obj (alloc_block_new wr _))).trans (alloc_block_new wr (.cells #[.int .i64 a, .string (str8 d)] 81))
          have hnl : (cr (am fs) dur (L.take k) 0).length = dur.length := cr_len _ _ _ _ (lie_take HLI.out k)
          have hlie : a + d.length ≤ dur.length := HLI.out (a, d) (List.mem_of_getElem? HX.out)
          have HLA : Hid (∀ (z : World) (sx : ByteArray), sx = str8 (d.take (d.length)) → Calls Try.prog 44 #[.string (str8 (cr (am fs) dur (L.take k) 0)), .int .i64 a, .string sx] z fun e w' => e = .returned (.string (str8 (cr (am fs) dur (L.take (k + 1)) 0))) ∧ ∃ n, w' = z.drewN n) := fun z sx hsx => by
            have htl : (d.take (d.length)).length ≤ d.length := by simp only [List.length_take]; omega
            rw [hsx, ← cr_next HX.out hm]
            exact rlaid_is _ (d.take (d.length)) a (by rw [hnl]; omega) (by rw [hnl]; exact hN) z
          have HBT := Lib.hid (HBR.out.trans ((hBb.trans (hBt.mono hBb.size)).mono HBR.out.size))
          generalize (wr.alloc (.cells #[.int .i64 a, .string (str8 d)] 81)) = wt at *
          generalize wr.heap.size = gb at *
          have hgbl := lt_of_obj hgb
          have k1 : ∀ z : Wld (fun x => Below wt.heap.size wt x), z.w.cell? ⟨gb, 0, none⟩ = some (.int .i64 a) := fun z => (z.ok.cell (p := ⟨gb, 0, none⟩) hgbl).trans (cell_of_block hgb 0)
          have k2 : ∀ z : Wld (fun x => Below wt.heap.size wt x), z.w.cell? ⟨gb, 1, none⟩ = some (.string (str8 d)) := fun z => (z.ok.cell (p := ⟨gb, 1, none⟩) hgbl).trans (cell_of_block hgb 1)
          haveI hne : Nonempty (Wld (fun x => Below wt.heap.size wt x)) := ⟨⟨wt, Below.refl _ _⟩⟩
          clear hBt hBb hgb hnl hm
          refine region_class (fun x => Below wt.heap.size wt x) (by kernel_rfl) (by kernel_rfl) (Below.refl _ _).drew ?_
          repeat (go_big_quiet_step ((rename_i z; go_at_call 44; ((refine Calls.mono (HLA.out z.w _ ?_) (fun e w' ⟨he, n, hn⟩ => ⟨he, ⟨w', by rw [hn]; exact z.ok.trans ((below_drewN (Below.refl _ _) n).mono z.ok.size)⟩, rfl⟩)); first | (rw [str8_extract, List.drop_zero, Nat.sub_zero]; done) | (rw [List.take_zero, str8_empty]; rfl) | (rw [List.take_length]; done)))))
          refine wpQuiet_nil ?_
          intro w3 hB3
          have HB3 := Lib.hid (HBT.out.trans (hB3.mono HBT.out.size))
          clear k1 k2 hne HLA hB3 hgbl
          go_wp2_with fail
          go_roundw
          case rel => first | exact ⟨k + 1, by go_num, rfl, by omega, HB3.out⟩ | ((repeat apply Exists.intro); exact ⟨⟨k + 1, by go_num, rfl, by omega, HB3.out⟩, rfl⟩)
          case measure => simp [intOf]; omega
        · by_cases hK2 : K = 2
          · subst hK2
            by_cases hA0 : A ≤ 0
            · go_wp2_with fail
              go_quiet (fail)
              go_wp2_with fail
              clear y2 y3 x0 x1 q1
              have hm : am fs k d = 0 := by unfold am; rw [HFK.out]; simp only [amount]; rw [if_neg (by decide), if_pos trivial]; omega
              have hBt : Below (wr.alloc (.cells #[.int .i64 a, .string (str8 d)] 81)).heap.size (wr.alloc (.cells #[.int .i64 a, .string (str8 d)] 81)) ((wr.alloc (.cells #[.int .i64 a, .string (str8 d)] 81)).drewN nq) := below_drewN (Below.refl _ _) nq
              have hBb : Below wr.heap.size wr (wr.alloc (.cells #[.int .i64 a, .string (str8 d)] 81)) := (Below.refl _ _).alloc (Nat.le_refl _) _
              have hgb := (hBt.block wr.heap.size (lt_of_obj (alloc_block_new wr _))).trans (alloc_block_new wr (.cells #[.int .i64 a, .string (str8 d)] 81))
              have hnl : (cr (am fs) dur (L.take k) 0).length = dur.length := cr_len _ _ _ _ (lie_take HLI.out k)
              have hlie : a + d.length ≤ dur.length := HLI.out (a, d) (List.mem_of_getElem? HX.out)
              have HLA : Hid (∀ (z : World) (sx : ByteArray), sx = str8 (d.take (0)) → Calls Try.prog 44 #[.string (str8 (cr (am fs) dur (L.take k) 0)), .int .i64 a, .string sx] z fun e w' => e = .returned (.string (str8 (cr (am fs) dur (L.take (k + 1)) 0))) ∧ ∃ n, w' = z.drewN n) := fun z sx hsx => by
                have htl : (d.take (0)).length ≤ d.length := by simp only [List.length_take]; omega
                rw [hsx, ← cr_next HX.out hm]
                exact rlaid_is _ (d.take (0)) a (by rw [hnl]; omega) (by rw [hnl]; exact hN) z
              have HBT := Lib.hid (HBR.out.trans ((hBb.trans (hBt.mono hBb.size)).mono HBR.out.size))
              generalize ((wr.alloc (.cells #[.int .i64 a, .string (str8 d)] 81)).drewN nq) = wt at *
              generalize wr.heap.size = gb at *
              have hgbl := lt_of_obj hgb
              have k1 : ∀ z : Wld (fun x => Below wt.heap.size wt x), z.w.cell? ⟨gb, 0, none⟩ = some (.int .i64 a) := fun z => (z.ok.cell (p := ⟨gb, 0, none⟩) hgbl).trans (cell_of_block hgb 0)
              have k2 : ∀ z : Wld (fun x => Below wt.heap.size wt x), z.w.cell? ⟨gb, 1, none⟩ = some (.string (str8 d)) := fun z => (z.ok.cell (p := ⟨gb, 1, none⟩) hgbl).trans (cell_of_block hgb 1)
              haveI hne : Nonempty (Wld (fun x => Below wt.heap.size wt x)) := ⟨⟨wt, Below.refl _ _⟩⟩
              clear hBt hBb hgb hnl hm
              refine region_class (fun x => Below wt.heap.size wt x) (by kernel_rfl) (by kernel_rfl) (Below.refl _ _).drew ?_
              repeat (go_big_quiet_step ((rename_i z; go_at_call 44; ((refine Calls.mono (HLA.out z.w _ ?_) (fun e w' ⟨he, n, hn⟩ => ⟨he, ⟨w', by rw [hn]; exact z.ok.trans ((below_drewN (Below.refl _ _) n).mono z.ok.size)⟩, rfl⟩)); first | (rw [str8_extract, List.drop_zero, Nat.sub_zero]; done) | (rw [List.take_zero, str8_empty]; rfl) | (rw [List.take_length]; done)))))
              refine wpQuiet_nil ?_
              intro w3 hB3
              have HB3 := Lib.hid (HBT.out.trans (hB3.mono HBT.out.size))
              clear k1 k2 hne HLA hB3 hgbl
              go_wp2_with fail
              go_roundw
              case rel => first | exact ⟨k + 1, by go_num, rfl, by omega, HB3.out⟩ | ((repeat apply Exists.intro); exact ⟨⟨k + 1, by go_num, rfl, by omega, HB3.out⟩, rfl⟩)
              case measure => simp [intOf]; omega
            · obtain ⟨n, rfl⟩ : ∃ n : Nat, A = n := ⟨A.toNat, by omega⟩
              by_cases hAn : n ≤ d.length
              · go_wp2_with fail
                go_quiet (fail)
                go_wp2_with fail
                clear y2 y3 x0 x1 q1
                have hm : am fs k d = n := by unfold am; rw [HFK.out]; simp only [amount]; rw [if_neg (by decide), if_pos trivial]; omega
                have hBt : Below (wr.alloc (.cells #[.int .i64 a, .string (str8 d)] 81)).heap.size (wr.alloc (.cells #[.int .i64 a, .string (str8 d)] 81)) ((wr.alloc (.cells #[.int .i64 a, .string (str8 d)] 81)).drewN nq) := below_drewN (Below.refl _ _) nq
                have hBb : Below wr.heap.size wr (wr.alloc (.cells #[.int .i64 a, .string (str8 d)] 81)) := (Below.refl _ _).alloc (Nat.le_refl _) _
                have hgb := (hBt.block wr.heap.size (lt_of_obj (alloc_block_new wr _))).trans (alloc_block_new wr (.cells #[.int .i64 a, .string (str8 d)] 81))
                have hnl : (cr (am fs) dur (L.take k) 0).length = dur.length := cr_len _ _ _ _ (lie_take HLI.out k)
                have hlie : a + d.length ≤ dur.length := HLI.out (a, d) (List.mem_of_getElem? HX.out)
                have HLA : Hid (∀ (z : World) (sx : ByteArray), sx = str8 (d.take (n)) → Calls Try.prog 44 #[.string (str8 (cr (am fs) dur (L.take k) 0)), .int .i64 a, .string sx] z fun e w' => e = .returned (.string (str8 (cr (am fs) dur (L.take (k + 1)) 0))) ∧ ∃ n, w' = z.drewN n) := fun z sx hsx => by
                  have htl : (d.take (n)).length ≤ d.length := by simp only [List.length_take]; omega
                  rw [hsx, ← cr_next HX.out hm]
                  exact rlaid_is _ (d.take (n)) a (by rw [hnl]; omega) (by rw [hnl]; exact hN) z
                have HBT := Lib.hid (HBR.out.trans ((hBb.trans (hBt.mono hBb.size)).mono HBR.out.size))
                generalize ((wr.alloc (.cells #[.int .i64 a, .string (str8 d)] 81)).drewN nq) = wt at *
                generalize wr.heap.size = gb at *
                have hgbl := lt_of_obj hgb
                have k1 : ∀ z : Wld (fun x => Below wt.heap.size wt x), z.w.cell? ⟨gb, 0, none⟩ = some (.int .i64 a) := fun z => (z.ok.cell (p := ⟨gb, 0, none⟩) hgbl).trans (cell_of_block hgb 0)
                have k2 : ∀ z : Wld (fun x => Below wt.heap.size wt x), z.w.cell? ⟨gb, 1, none⟩ = some (.string (str8 d)) := fun z => (z.ok.cell (p := ⟨gb, 1, none⟩) hgbl).trans (cell_of_block hgb 1)
                haveI hne : Nonempty (Wld (fun x => Below wt.heap.size wt x)) := ⟨⟨wt, Below.refl _ _⟩⟩
                clear hBt hBb hgb hnl hm
                refine region_class (fun x => Below wt.heap.size wt x) (by kernel_rfl) (by kernel_rfl) (Below.refl _ _).drew ?_
                repeat (go_big_quiet_step ((rename_i z; go_at_call 44; ((refine Calls.mono (HLA.out z.w _ ?_) (fun e w' ⟨he, n, hn⟩ => ⟨he, ⟨w', by rw [hn]; exact z.ok.trans ((below_drewN (Below.refl _ _) n).mono z.ok.size)⟩, rfl⟩)); first | (rw [str8_extract, List.drop_zero, Nat.sub_zero]; done) | (rw [List.take_zero, str8_empty]; rfl) | (rw [List.take_length]; done)))))
                refine wpQuiet_nil ?_
                intro w3 hB3
                have HB3 := Lib.hid (HBT.out.trans (hB3.mono HBT.out.size))
                clear k1 k2 hne HLA hB3 hgbl
                go_wp2_with fail
                go_roundw
                case rel => first | exact ⟨k + 1, by go_num, rfl, by omega, HB3.out⟩ | ((repeat apply Exists.intro); exact ⟨⟨k + 1, by go_num, rfl, by omega, HB3.out⟩, rfl⟩)
                case measure => simp [intOf]; omega
              · by_cases hd0 : 0 < d.length
                · go_wp2_with fail
                  go_quiet (fail)
                  go_wp2_with fail
                  clear y2 y3 x0 x1 q1
                  have hm : am fs k d = d.length := by unfold am; rw [HFK.out]; simp only [amount]; rw [if_neg (by decide), if_pos trivial]; omega
                  have hBt : Below (wr.alloc (.cells #[.int .i64 a, .string (str8 d)] 81)).heap.size (wr.alloc (.cells #[.int .i64 a, .string (str8 d)] 81)) ((wr.alloc (.cells #[.int .i64 a, .string (str8 d)] 81)).drewN nq) := below_drewN (Below.refl _ _) nq
                  have hBb : Below wr.heap.size wr (wr.alloc (.cells #[.int .i64 a, .string (str8 d)] 81)) := (Below.refl _ _).alloc (Nat.le_refl _) _
                  have hgb := (hBt.block wr.heap.size (lt_of_obj (alloc_block_new wr _))).trans (alloc_block_new wr (.cells #[.int .i64 a, .string (str8 d)] 81))
                  have hnl : (cr (am fs) dur (L.take k) 0).length = dur.length := cr_len _ _ _ _ (lie_take HLI.out k)
                  have hlie : a + d.length ≤ dur.length := HLI.out (a, d) (List.mem_of_getElem? HX.out)
                  have HLA : Hid (∀ (z : World) (sx : ByteArray), sx = str8 (d.take (d.length)) → Calls Try.prog 44 #[.string (str8 (cr (am fs) dur (L.take k) 0)), .int .i64 a, .string sx] z fun e w' => e = .returned (.string (str8 (cr (am fs) dur (L.take (k + 1)) 0))) ∧ ∃ n, w' = z.drewN n) := fun z sx hsx => by
                    have htl : (d.take (d.length)).length ≤ d.length := by simp only [List.length_take]; omega
                    rw [hsx, ← cr_next HX.out hm]
                    exact rlaid_is _ (d.take (d.length)) a (by rw [hnl]; omega) (by rw [hnl]; exact hN) z
                  have HBT := Lib.hid (HBR.out.trans ((hBb.trans (hBt.mono hBb.size)).mono HBR.out.size))
                  generalize ((wr.alloc (.cells #[.int .i64 a, .string (str8 d)] 81)).drewN nq) = wt at *
                  generalize wr.heap.size = gb at *
                  have hgbl := lt_of_obj hgb
                  have k1 : ∀ z : Wld (fun x => Below wt.heap.size wt x), z.w.cell? ⟨gb, 0, none⟩ = some (.int .i64 a) := fun z => (z.ok.cell (p := ⟨gb, 0, none⟩) hgbl).trans (cell_of_block hgb 0)
                  have k2 : ∀ z : Wld (fun x => Below wt.heap.size wt x), z.w.cell? ⟨gb, 1, none⟩ = some (.string (str8 d)) := fun z => (z.ok.cell (p := ⟨gb, 1, none⟩) hgbl).trans (cell_of_block hgb 1)
                  haveI hne : Nonempty (Wld (fun x => Below wt.heap.size wt x)) := ⟨⟨wt, Below.refl _ _⟩⟩
                  clear hBt hBb hgb hnl hm
                  refine region_class (fun x => Below wt.heap.size wt x) (by kernel_rfl) (by kernel_rfl) (Below.refl _ _).drew ?_
                  repeat (go_big_quiet_step ((rename_i z; go_at_call 44; ((refine Calls.mono (HLA.out z.w _ ?_) (fun e w' ⟨he, n, hn⟩ => ⟨he, ⟨w', by rw [hn]; exact z.ok.trans ((below_drewN (Below.refl _ _) n).mono z.ok.size)⟩, rfl⟩)); first | (rw [str8_extract, List.drop_zero, Nat.sub_zero]; done) | (rw [List.take_zero, str8_empty]; rfl) | (rw [List.take_length]; done)))))
                  refine wpQuiet_nil ?_
                  intro w3 hB3
                  have HB3 := Lib.hid (HBT.out.trans (hB3.mono HBT.out.size))
                  clear k1 k2 hne HLA hB3 hgbl
                  go_wp2_with fail
                  go_roundw
                  case rel => first | exact ⟨k + 1, by go_num, rfl, by omega, HB3.out⟩ | ((repeat apply Exists.intro); exact ⟨⟨k + 1, by go_num, rfl, by omega, HB3.out⟩, rfl⟩)
                  case measure => simp [intOf]; omega
                · go_wp2_with fail
                  go_quiet (fail)
                  go_wp2_with fail
                  clear y2 y3 x0 x1 q1
                  have hm : am fs k d = 0 := by unfold am; rw [HFK.out]; simp only [amount]; rw [if_neg (by decide), if_pos trivial]; omega
                  have hBt : Below (wr.alloc (.cells #[.int .i64 a, .string (str8 d)] 81)).heap.size (wr.alloc (.cells #[.int .i64 a, .string (str8 d)] 81)) ((wr.alloc (.cells #[.int .i64 a, .string (str8 d)] 81)).drewN nq) := below_drewN (Below.refl _ _) nq
                  have hBb : Below wr.heap.size wr (wr.alloc (.cells #[.int .i64 a, .string (str8 d)] 81)) := (Below.refl _ _).alloc (Nat.le_refl _) _
                  have hgb := (hBt.block wr.heap.size (lt_of_obj (alloc_block_new wr _))).trans (alloc_block_new wr (.cells #[.int .i64 a, .string (str8 d)] 81))
                  have hnl : (cr (am fs) dur (L.take k) 0).length = dur.length := cr_len _ _ _ _ (lie_take HLI.out k)
                  have hlie : a + d.length ≤ dur.length := HLI.out (a, d) (List.mem_of_getElem? HX.out)
                  have HLA : Hid (∀ (z : World) (sx : ByteArray), sx = str8 (d.take (0)) → Calls Try.prog 44 #[.string (str8 (cr (am fs) dur (L.take k) 0)), .int .i64 a, .string sx] z fun e w' => e = .returned (.string (str8 (cr (am fs) dur (L.take (k + 1)) 0))) ∧ ∃ n, w' = z.drewN n) := fun z sx hsx => by
                    have htl : (d.take (0)).length ≤ d.length := by simp only [List.length_take]; omega
                    rw [hsx, ← cr_next HX.out hm]
                    exact rlaid_is _ (d.take (0)) a (by rw [hnl]; omega) (by rw [hnl]; exact hN) z
                  have HBT := Lib.hid (HBR.out.trans ((hBb.trans (hBt.mono hBb.size)).mono HBR.out.size))
                  generalize ((wr.alloc (.cells #[.int .i64 a, .string (str8 d)] 81)).drewN nq) = wt at *
                  generalize wr.heap.size = gb at *
                  have hgbl := lt_of_obj hgb
                  have k1 : ∀ z : Wld (fun x => Below wt.heap.size wt x), z.w.cell? ⟨gb, 0, none⟩ = some (.int .i64 a) := fun z => (z.ok.cell (p := ⟨gb, 0, none⟩) hgbl).trans (cell_of_block hgb 0)
                  have k2 : ∀ z : Wld (fun x => Below wt.heap.size wt x), z.w.cell? ⟨gb, 1, none⟩ = some (.string (str8 d)) := fun z => (z.ok.cell (p := ⟨gb, 1, none⟩) hgbl).trans (cell_of_block hgb 1)
                  haveI hne : Nonempty (Wld (fun x => Below wt.heap.size wt x)) := ⟨⟨wt, Below.refl _ _⟩⟩
                  clear hBt hBb hgb hnl hm
                  refine region_class (fun x => Below wt.heap.size wt x) (by kernel_rfl) (by kernel_rfl) (Below.refl _ _).drew ?_
                  repeat (go_big_quiet_step ((rename_i z; go_at_call 44; ((refine Calls.mono (HLA.out z.w _ ?_) (fun e w' ⟨he, n, hn⟩ => ⟨he, ⟨w', by rw [hn]; exact z.ok.trans ((below_drewN (Below.refl _ _) n).mono z.ok.size)⟩, rfl⟩)); first | (rw [str8_extract, List.drop_zero, Nat.sub_zero]; done) | (rw [List.take_zero, str8_empty]; rfl) | (rw [List.take_length]; done)))))
                  refine wpQuiet_nil ?_
                  intro w3 hB3
                  have HB3 := Lib.hid (HBT.out.trans (hB3.mono HBT.out.size))
                  clear k1 k2 hne HLA hB3 hgbl
                  go_wp2_with fail
                  go_roundw
                  case rel => first | exact ⟨k + 1, by go_num, rfl, by omega, HB3.out⟩ | ((repeat apply Exists.intro); exact ⟨⟨k + 1, by go_num, rfl, by omega, HB3.out⟩, rfl⟩)
                  case measure => simp [intOf]; omega
          · have dK1 : (K == 1) = false := by simpa using hK1
            have dK2 : (K == 2) = false := by simpa using hK2
            go_wp2_with fail
            clear y2 y3 x0 x1 q1
            have hm : am fs k d = 0 := by unfold am; rw [HFK.out]; simp only [amount]; rw [if_neg hK1, if_neg hK2]
            have hBt : Below (wr.alloc (.cells #[.int .i64 a, .string (str8 d)] 81)).heap.size (wr.alloc (.cells #[.int .i64 a, .string (str8 d)] 81)) (wr.alloc (.cells #[.int .i64 a, .string (str8 d)] 81)) := Below.refl _ _
            have hBb : Below wr.heap.size wr (wr.alloc (.cells #[.int .i64 a, .string (str8 d)] 81)) := (Below.refl _ _).alloc (Nat.le_refl _) _
            have hgb := (hBt.block wr.heap.size (lt_of_obj (alloc_block_new wr _))).trans (alloc_block_new wr (.cells #[.int .i64 a, .string (str8 d)] 81))
            have hnl : (cr (am fs) dur (L.take k) 0).length = dur.length := cr_len _ _ _ _ (lie_take HLI.out k)
            have hlie : a + d.length ≤ dur.length := HLI.out (a, d) (List.mem_of_getElem? HX.out)
            have HLA : Hid (∀ (z : World) (sx : ByteArray), sx = str8 (d.take (0)) → Calls Try.prog 44 #[.string (str8 (cr (am fs) dur (L.take k) 0)), .int .i64 a, .string sx] z fun e w' => e = .returned (.string (str8 (cr (am fs) dur (L.take (k + 1)) 0))) ∧ ∃ n, w' = z.drewN n) := fun z sx hsx => by
              have htl : (d.take (0)).length ≤ d.length := by simp only [List.length_take]; omega
              rw [hsx, ← cr_next HX.out hm]
              exact rlaid_is _ (d.take (0)) a (by rw [hnl]; omega) (by rw [hnl]; exact hN) z
            have HBT := Lib.hid (HBR.out.trans ((hBb.trans (hBt.mono hBb.size)).mono HBR.out.size))
            generalize (wr.alloc (.cells #[.int .i64 a, .string (str8 d)] 81)) = wt at *
            generalize wr.heap.size = gb at *
            have hgbl := lt_of_obj hgb
            have k1 : ∀ z : Wld (fun x => Below wt.heap.size wt x), z.w.cell? ⟨gb, 0, none⟩ = some (.int .i64 a) := fun z => (z.ok.cell (p := ⟨gb, 0, none⟩) hgbl).trans (cell_of_block hgb 0)
            have k2 : ∀ z : Wld (fun x => Below wt.heap.size wt x), z.w.cell? ⟨gb, 1, none⟩ = some (.string (str8 d)) := fun z => (z.ok.cell (p := ⟨gb, 1, none⟩) hgbl).trans (cell_of_block hgb 1)
            haveI hne : Nonempty (Wld (fun x => Below wt.heap.size wt x)) := ⟨⟨wt, Below.refl _ _⟩⟩
            clear hBt hBb hgb hnl hm
            refine region_class (fun x => Below wt.heap.size wt x) (by kernel_rfl) (by kernel_rfl) (Below.refl _ _).drew ?_
            repeat (go_big_quiet_step ((rename_i z; go_at_call 44; ((refine Calls.mono (HLA.out z.w _ ?_) (fun e w' ⟨he, n, hn⟩ => ⟨he, ⟨w', by rw [hn]; exact z.ok.trans ((below_drewN (Below.refl _ _) n).mono z.ok.size)⟩, rfl⟩)); first | (rw [str8_extract, List.drop_zero, Nat.sub_zero]; done) | (rw [List.take_zero, str8_empty]; rfl) | (rw [List.take_length]; done)))))
            refine wpQuiet_nil ?_
            intro w3 hB3
            have HB3 := Lib.hid (HBT.out.trans (hB3.mono HBT.out.size))
            clear k1 k2 hne HLA hB3 hgbl
            go_wp2_with fail
            go_roundw
            case rel => first | exact ⟨k + 1, by go_num, rfl, by omega, HB3.out⟩ | ((repeat apply Exists.intro); exact ⟨⟨k + 1, by go_num, rfl, by omega, HB3.out⟩, rfl⟩)
            case measure => simp [intOf]; omega
    · have hkl : L.take k = L := List.take_of_length_le (by omega)
      have q1 : wr.cell? ⟨g0, 1, none⟩ = some (.slice ao L.length c) := cell_of_block hgr 1
      have hg1r := (hBr.block g1 (lt_of_obj H.out.2.2)).trans H.out.2.2
      have m0 : wr.cell? ⟨g1, 0, none⟩ = _ := cell_of_block hg1r 0
      have m1 : wr.cell? ⟨g1, 1, none⟩ = _ := cell_of_block hg1r 1
      have f0 := free_of_block hg1r 0
      have f1 := free_of_block hg1r 1
      dsimp at m0 m1
      rw [hkl, HSF.out]
      have hge : w.heap.size ≤ g1 := HGE.out.2
      have HBF : Hid (Below w.heap.size w wr) := by
        have h := H.out.1
        rw [HGE.out.1] at h
        exact h.trans (hBr.mono h.size)
      clear hkl hgr hBr hg1r hgl
      go_wp2_with fail
      exact bodyPost_ret (v := .agg #[.string sf, .slice none 0 0]) (by simp [results, Try.results37, go_sem, m0, m1]) rfl ⟨rfl, (HBF.out.setCell (p := ⟨g1, 0, none⟩) hge _).setCell (p := ⟨g1, 1, none⟩) hge _⟩
end Go.Proofs.Ytbgjahgmkbbgjaa
