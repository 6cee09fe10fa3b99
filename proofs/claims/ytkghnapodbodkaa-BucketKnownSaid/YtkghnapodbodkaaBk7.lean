/- BucketKnown, walked: the laws at numbers. -/
import Derived.Test.YtkghnapodbodkaaOpenS
import Derived.Test.YtkghnapodbodkaaBw5
import Derived.Test.YtkghnapodbodkaaStep
namespace Go.Proofs.Ytkghnapodbodkaa
open Go.RowKit

/-- The numbers about the bounds. -/
def kl : List Nat := [0, 1, 2, 3, 10, 4294967296, 9223372036854775808, 18446744073709551614, 18446744073709551615]
def kv (j : Nat) : Nat := kl.getD j 0
theorem kv_lt (j : Nat) : kv j < 18446744073709551616 := by
  unfold kv
  by_cases h : j < 9
  · rcases (show j = 0 ∨ j = 1 ∨ j = 2 ∨ j = 3 ∨ j = 4 ∨ j = 5 ∨ j = 6 ∨ j = 7 ∨ j = 8 by omega) with rfl | rfl | rfl | rfl | rfl | rfl | rfl | rfl | rfl <;> decide
  · have h9 : kl.length ≤ j := by show 9 ≤ j; omega
    rw [List.getD, List.getElem?_eq_none h9]
    decide

/-- The block L holds them. -/
def IsL (w : World) (L : Nat) : Prop := w.heap[L]? = some (.cells #[.int .u64 0, .int .u64 1, .int .u64 2, .int .u64 3, .int .u64 10, .int .u64 4294967296, .int .u64 9223372036854775808, .int .u64 18446744073709551614, .int .u64 18446744073709551615] 28)
theorem IsL.lt {w : World} {L : Nat} (h : IsL w L) : L < w.heap.size := lt_of_obj h
theorem IsL.at {w : World} {L : Nat} (h : IsL w L) {j : Nat} (hj : j < 9) : w.cell? ⟨L, j, none⟩ = some (.int .u64 (kv j : Nat)) := by
  refine (cell_of_block h j).trans ?_
  rcases (show j = 0 ∨ j = 1 ∨ j = 2 ∨ j = 3 ∨ j = 4 ∨ j = 5 ∨ j = 6 ∨ j = 7 ∨ j = 8 by omega) with rfl | rfl | rfl | rfl | rfl | rfl | rfl | rfl | rfl <;> rfl

/-- Acts as cells. -/
def actCells : List (Nat × Nat × Nat) → List Value
  | [] => []
  | (d, t, n) :: l => .int .i64 d :: .int .u64 t :: .int .u64 n :: actCells l
theorem actCells_len (l : List (Nat × Nat × Nat)) : (actCells l).length = l.length * 3 := by
  induction l with
  | nil => rfl
  | cons x l ih => obtain ⟨d, t, n⟩ := x; simp only [actCells, List.length_cons, ih]; omega
theorem actCells_snoc (l : List (Nat × Nat × Nat)) (d t n : Nat) : actCells l ++ [.int .i64 d, .int .u64 t, .int .u64 n] = actCells (l ++ [(d, t, n)]) := by
  induction l with
  | nil => rfl
  | cons x l ih => obtain ⟨a, b, c⟩ := x; simp only [actCells, List.cons_append, ih]
theorem actCells_get : ∀ (l : List (Nat × Nat × Nat)) (i : Nat) (x : Nat × Nat × Nat), l[i]? = some x →
    (actCells l)[i * 3]? = some (.int .i64 x.1) ∧ (actCells l)[i * 3 + 1]? = some (.int .u64 x.2.1) ∧ (actCells l)[i * 3 + 2]? = some (.int .u64 x.2.2)
  | [], i, x, h => by simp at h
  | (d, t, n) :: l, 0, x, h => by
    simp at h
    subst h
    exact ⟨rfl, rfl, rfl⟩
  | (d, t, n) :: l, i + 1, x, h => by
    have ih := actCells_get l i x (by simpa using h)
    rw [show (i + 1) * 3 = i * 3 + 3 by omega]
    exact ih

/-- An owned row of acts serves as the acts of a law. -/
theorem acts_own {w : World} {v : Value} {l : List (Nat × Nat × Nat)} (h : w.ownsRow 0 40 3 v l.length (actCells l)) (hl : ∀ x ∈ l, x.2.1 < 18446744073709551616) :
    ∃ a cap, v = .slice a l.length cap ∧ IsActs w a l.length := by
  rcases Nat.eq_zero_or_pos l.length with h0 | h0
  · obtain ⟨a, cap, hv⟩ := own_shape h
    exact ⟨a, cap, hv, .inl h0⟩
  · obtain ⟨g, cap, hv, _, hg⟩ := own_slice h h0
    rw [hv] at h
    refine ⟨_, cap, hv, .inr ⟨g, 0, rfl, hg, ?_⟩⟩
    intro i hi
    have hx : l[i]? = some l[i] := List.getElem?_eq_getElem hi
    have h3 := actCells_get l i l[i] hx
    refine ⟨l[i].1, l[i].2.1, l[i].2.2, hl _ (List.getElem_mem hi), ?_, ?_, ?_⟩
    · rw [Nat.zero_add, h.cellAt _ (by omega)]; exact h3.1
    · rw [Nat.zero_add, h.cellAt _ (by omega)]; exact h3.2.1
    · rw [Nat.zero_add, h.cellAt _ (by omega)]; exact h3.2.2

theorem info_act : (Try.prog.info? 40).map (fun i => (i.zero, i.size, i.bytes)) = some (some (.agg #[.int .i64 0, .int .u64 0, .int .u64 0]), 3, 24) := by kernel_rfl

/-- At the heads of the rounds. -/
def KRel1 (L : Nat) (W : World) (k i : Value) (wr : World) : Prop := ∃ kn n : Nat, k = .int .i64 kn ∧ i = .int .i64 n ∧ kn < 100003 ∧ n ≤ 9 ∧ IsL wr L ∧ Below W.heap.size W wr
def KRows (L : Nat) (W : World) (n : Nat) (acts : Value) (wr : World) : Prop :=
  ∃ l : List (Nat × Nat × Nat), l.length = n ∧ IsL wr L ∧ Below W.heap.size W wr ∧ (∀ x ∈ l, x.2.1 < 18446744073709551616) ∧
    wr.ownsRow 0 40 3 acts l.length (actCells l) ∧ ∀ g, acts.ownBlock = some g → W.heap.size ≤ g ∧ g ≠ L
/-- The worlds of the tests. -/
def KSame (L : Nat) (W : World) (a : Option Addr) (len : Nat) (wr : World) : Prop := IsL wr L ∧ Below W.heap.size W wr ∧ IsActs wr a len ∧ W.heap.size ≤ L
theorem KSame.same {L : Nat} {W : World} {a : Option Addr} {len : Nat} {w w' : World} (h : KSame L W a len w) (hb : Below w.heap.size w w') : KSame L W a len w' := by
  obtain ⟨h1, h2, h3, h5⟩ := h
  refine ⟨(hb.block L h1.lt).trans h1, h2.trans (hb.mono h2.size), ?_, h5⟩
  rcases h3 with h3 | ⟨b3, o3, ha, hb3, hc⟩
  · exact .inl h3
  · refine .inr ⟨b3, o3, ha, Nat.lt_of_lt_of_le hb3 hb.size, fun i hi => ?_⟩
    obtain ⟨d, t, n, ht, c0, c1, c2⟩ := hc i hi
    exact ⟨d, t, n, ht, (hb.cell (p := ⟨b3, o3 + i * 3, none⟩) hb3).trans c0, (hb.cell (p := ⟨b3, o3 + i * 3 + 1, none⟩) hb3).trans c1, (hb.cell (p := ⟨b3, o3 + i * 3 + 2, none⟩) hb3).trans c2⟩

theorem wf_u64 {n : Nat} (h : n < 18446744073709551616) : (Lit.int .u64 (n : Int)).wf = true := by
  simp [Lit.wf, IntKind.min, IntKind.max, IntKind.signed, IntKind.bits]; omega
theorem wf_u16 {n : Nat} (h : n < 65536) : (Lit.int .u16 (n : Int)).wf = true := by
  simp [Lit.wf, IntKind.min, IntKind.max, IntKind.signed, IntKind.bits]; omega

def KRel3 (L : Nat) (W : World) (k acts n : Value) (wr : World) : Prop :=
  ∃ kn nn : Nat, k = .int .i64 kn ∧ n = .int .i64 nn ∧ kn < 100003 ∧ nn ≤ 12 ∧ KRows L W nn acts wr

theorem bounds_seven (r b : Nat) (hr : r ≤ 65535) (hb : b ≤ 65535) (x y z : Nat) (hz : z ≤ 65535) (c2 c3 : Nat) (w : World)
    (h2 : w.heap[c2]? = some (.cells #[.int .u64 0, .int .u64 1, .int .u64 x, .int .u64 3, .int .u64 y, .int .u64 0, .int .u64 2] 28))
    (h3 : w.heap[c3]? = some (.cells #[.int .u16 5, .int .u16 1, .int .u16 z, .int .u16 9, .int .u16 3, .int .u16 4, .int .u16 1] 22)) :
    Calls Try.prog 3 #[.int .u16 r, .int .u16 b, .slice (some ⟨c2, 0, none⟩) 7 7, .slice (some ⟨c3, 0, none⟩) 7 7] w fun e w' => e = .returned (.bool true) ∧ Below w.heap.size w w' := by
  refine bounds_some r b hr hb c2 0 7 7 c3 0 7 7 [0, 1, x, 3, y, 0, 2] [5, 1, z, 9, 3, 4, 1] w (by decide) (by decide) ?_ ?_ ?_ (lt_of_obj h2) (lt_of_obj h3)
  · intro i hi
    rw [Nat.zero_add]
    refine (cell_of_block h2 i).trans ?_
    rcases (show i = 0 ∨ i = 1 ∨ i = 2 ∨ i = 3 ∨ i = 4 ∨ i = 5 ∨ i = 6 by omega) with rfl | rfl | rfl | rfl | rfl | rfl | rfl <;> rfl
  · intro i hi
    rw [Nat.zero_add]
    refine (cell_of_block h3 i).trans ?_
    rcases (show i = 0 ∨ i = 1 ∨ i = 2 ∨ i = 3 ∨ i = 4 ∨ i = 5 ∨ i = 6 by omega) with rfl | rfl | rfl | rfl | rfl | rfl | rfl <;> rfl
  · intro i
    by_cases hi : i < 7
    · rcases (show i = 0 ∨ i = 1 ∨ i = 2 ∨ i = 3 ∨ i = 4 ∨ i = 5 ∨ i = 6 by omega) with rfl | rfl | rfl | rfl | rfl | rfl | rfl <;> simp <;> omega
    · rw [List.getD, List.getElem?_eq_none (by simp; omega)]
      decide

theorem bounds_seven_w (r b : Nat) (hr : r ≤ 65535) (hb : b ≤ 65535) (x y z : Nat) (hz : z ≤ 65535) (w0 : World) (c2 c3 : Nat) (w : World) (h0 : Below w0.heap.size w0 w)
    (h2 : w.heap[c2]? = some (.cells #[.int .u64 0, .int .u64 1, .int .u64 x, .int .u64 3, .int .u64 y, .int .u64 0, .int .u64 2] 28))
    (h3 : w.heap[c3]? = some (.cells #[.int .u16 5, .int .u16 1, .int .u16 z, .int .u16 9, .int .u16 3, .int .u16 4, .int .u16 1] 22)) :
    Calls Try.prog 3 #[.int .u16 r, .int .u16 b, .slice (some ⟨c2, 0, none⟩) 7 7, .slice (some ⟨c3, 0, none⟩) 7 7] w fun e w' => e = .returned (.bool true) ∧ Below w0.heap.size w0 w' :=
  (bounds_seven r b hr hb x y z hz c2 c3 w h2 h3).mono fun _ _ ⟨he, hb⟩ => ⟨he, h0.trans (hb.mono h0.size)⟩

def KRel5 (L : Nat) (W : World) (v : Value) (wr : World) : Prop := v = .bool false ∧ IsL wr L ∧ Below W.heap.size W wr

set_option maxRecDepth 100000 in
set_option maxHeartbeats 4000000 in
theorem known_any (w : World) : Calls Try.prog 7 #[] w fun e w' => e = .returned (.bool true) ∧ Below w.heap.size w w' := by
  obtain ⟨i0, hi, hz0, hz1, hz2⟩ := info_parts info_act
  go_enter Try.func7, Try.ntmps7
  go_wp2_with fail
  have hL : IsL (w.alloc (.cells #[.int .u64 0, .int .u64 1, .int .u64 2, .int .u64 3, .int .u64 10, .int .u64 4294967296, .int .u64 9223372036854775808, .int .u64 18446744073709551614, .int .u64 18446744073709551615] 28)) w.heap.size := alloc_block_new w _
  have hBel : Below w.heap.size w (w.alloc (.cells #[.int .u64 0, .int .u64 1, .int .u64 2, .int .u64 3, .int .u64 10, .int .u64 4294967296, .int .u64 9223372036854775808, .int .u64 18446744073709551614, .int .u64 18446744073709551615] 28)) := (Below.refl _ _).alloc (Nat.le_refl _) _
  generalize w.alloc (.cells #[.int .u64 0, .int .u64 1, .int .u64 2, .int .u64 3, .int .u64 10, .int .u64 4294967296, .int .u64 9223372036854775808, .int .u64 18446744073709551614, .int .u64 18446744073709551615] 28) = w1 at *
  obtain ⟨L, hLe⟩ : ∃ L, w.heap.size = L := ⟨_, rfl⟩
  have hLw : w.heap.size ≤ L := Nat.le_of_eq hLe
  rw [hLe] at hL
  rw [show Value.slice (some ⟨w.heap.size, 0, none⟩) 9 9 = Value.slice (some ⟨L, 0, none⟩) 9 9 by rw [hLe]]
  clear hLe
  go_loopw [2, 3] (KRel1 L w) (fun _ i _ => 9 - (intOf i).toNat)
  case atStart => exact ⟨1, 0, rfl, rfl, by decide, Nat.zero_le _, hL, hBel⟩
  case round =>
    clear hL hBel
    obtain ⟨k1, n, rfl, rfl, hk1, hn, hL1, hBel1⟩ := hrel
    obtain ⟨wo, rfl⟩ : ∃ wo : World, wo = wr := ⟨_, rfl⟩
    by_cases hn9 : n < 9
    · have dn9 : decide ((n : Int) < 9) = true := by simp; omega
      go_wp2_with fail
      go_loopw [2, 4] (KRel1 L w) (fun _ i _ => 9 - (intOf i).toNat)
      case atStart => exact ⟨k1, 0, rfl, rfl, hk1, Nat.zero_le _, hL1, hBel1⟩
      case round =>
        clear hL1 hBel1 hk1
        obtain ⟨k2, m, rfl, rfl, hk2, hm, hL2, hBel2⟩ := hrel
        obtain ⟨w2, rfl⟩ : ∃ w2 : World, w2 = wr := ⟨_, rfl⟩
        by_cases hm9 : m < 9
        · have dm9 : decide ((m : Int) < 9) = true := by simp; omega
          go_wp2_with fail
          go_loopw [2, 5, 6] (KRel3 L w) (fun _ _ i _ => 12 - (intOf i).toNat)
          case atStart => exact ⟨k2, 0, rfl, rfl, hk2, Nat.zero_le _, [], rfl, hL2, hBel2, by simp, World.ownsRow_nil _ _ _ _, by simp [Value.ownBlock]⟩
          case round =>
            clear hL2 hBel2 hk2
            obtain ⟨k, nn, rfl, rfl, hk, hl, l, rfl, hL, hBel, hlt, hown, hblk⟩ := hrel
            have HO := Lib.hid hown
            have HK := Lib.hid hblk
            clear hown hblk
            by_cases hl12 : l.length < 12
            · have dl12 : decide ((l.length : Int) < 12) = true := by simp; omega
              obtain ⟨x1, hx1⟩ : ∃ x : Nat, k % 3 = x := ⟨_, rfl⟩
              obtain ⟨x2, hx2⟩ : ∃ x : Nat, k / 3 % 9 = x := ⟨_, rfl⟩
              obtain ⟨x3, hx3⟩ : ∃ x : Nat, k / 27 % 9 = x := ⟨_, rfl⟩
              have e1 : (k : Int).tmod 3 = (x1 : Int) := by rw [Int.tmod_eq_emod_of_nonneg (by omega)]; omega
              have e2 : (IntKind.i64.wrap ((k : Int) / 3)).tmod 9 = (x2 : Int) := by rw [IntWalk.i64_in _ (by omega), Int.tmod_eq_emod_of_nonneg (by omega)]; omega
              have e3 : (IntKind.i64.wrap ((k : Int) / 27)).tmod 9 = (x3 : Int) := by rw [IntWalk.i64_in _ (by omega), Int.tmod_eq_emod_of_nonneg (by omega)]; omega
              have b2 : (x2 : Int) < 9 := by omega
              have b3 : (x3 : Int) < 9 := by omega
              have c1 : wr.cell? ⟨L, x2, none⟩ = some (.int .u64 (kv x2 : Nat)) := hL.at (by omega)
              have c2 : wr.cell? ⟨L, x3, none⟩ = some (.int .u64 (kv x3 : Nat)) := hL.at (by omega)
              have hkv2 := kv_lt x2
              have hkv3 := kv_lt x3
              generalize kv x2 = t2 at *
              generalize kv x3 = t3 at *
              clear hx1 hx2 hx3
              go_wp2_with fail
              have hLw2 := hL.lt
              go_cut [5] (KRows L w (l.length + 1))
              case first =>
                go_region_law (refine step_append_row rfl (.tmp 24) (.tmp 40) 32 rfl 40 i0 (.agg #[.int .i64 0, .int .u64 0, .int .u64 0]) 3 24 Try.underlying32 hi hz0 hz1 hz2 rfl (by decide) _ _ _ rfl (HO.out.alloc _) ⟨wr.heap.size, 0, none⟩ 1 1 [.int .i64 _, .int .u64 _, .int .u64 _] rfl rfl (three_new _ _ _ _ _) (by intro u hu; simp at hu; rcases hu with rfl | rfl | rfl <;> rfl) (by unfold maxLen; omega) (by omega) ?_; intro v' w' hown' hg' hb')
                all_goals
                  have HO' := Lib.hid hown'
                  have HG' := Lib.hid hg'
                  have HB' := Lib.hid hb'
                  clear hown' hg' hb' c1 c2 e1 e2 e3
                  go_simp
                  go_wp2
                  go_meet
                  case rel =>
                    refine ⟨l ++ [(x1, t2, t3)], by simp, grown_keep HG'.out ((alloc_block_old _ hLw2).trans hL) (fun e => (HK.out L e).2 rfl), ?_, ?_, ?_, ?_⟩
                    · exact (hBel.drew.alloc (by have := hBel.size; simp; omega) _).grown HG'.out (by have := hBel.size; simp; omega) (fun g hg => (HK.out g hg).1)
                    · intro x hx
                      rcases List.mem_append.1 hx with hx | hx
                      · exact hlt x hx
                      · simp at hx
                        subst hx
                        exact hkv2
                    · have h := HO'.out
                      rw [actCells_snoc] at h
                      simpa using h
                    · intro g hg
                      rcases HB'.out with e | e
                      · exact HK.out g (e ▸ hg)
                      · rw [hg] at e
                        simp at e
                        have := hBel.size
                        omega
              case rest =>
                have HR := Lib.hid hcut
                clear hcut HO HK hlt hBel hL c1 c2 e1 e2 e3
                go_wp2
                refine ⟨⟨(k * 31 + 7 * l.length + 11) % 100003, l.length + 1, ?_, ?_, by omega, by omega, HR.out⟩, by simp [intOf]; omega⟩
                · congr 1
                · rfl
            · obtain ⟨a, cap, hv, hacts⟩ := acts_own HO.out hlt
              have hS : KSame L w a l.length wr := ⟨hL, hBel, hacts, hLw⟩
              have HS := Lib.hid hS
              rw [hv]
              clear hv hS hacts HO HK hlt hL hBel
              obtain ⟨x1, hx1⟩ : ∃ x : Nat, k % 9 = x := ⟨_, rfl⟩
              have e1 : (k : Int).tmod 9 = (x1 : Int) := by rw [Int.tmod_eq_emod_of_nonneg (by omega)]; omega
              have b1 : (x1 : Int) < 9 := by omega
              have bn : (n : Int) < 9 := by omega
              have bm : (m : Int) < 9 := by omega
              clear hx1
              have c1 : ∀ x : Wld (KSame L w a l.length), x.w.cell? ⟨L, x1, none⟩ = some (.int .u64 (kv x1 : Nat)) := fun x => x.ok.1.at (by omega)
              have c2 : ∀ x : Wld (KSame L w a l.length), x.w.cell? ⟨L, k / 9 % 9, none⟩ = some (.int .u64 (kv (k / 9 % 9) : Nat)) := fun x => x.ok.1.at (by omega)
              have c3 : ∀ x : Wld (KSame L w a l.length), x.w.cell? ⟨L, k / 81 % 9, none⟩ = some (.int .u64 (kv (k / 81 % 9) : Nat)) := fun x => x.ok.1.at (by omega)
              have c4 : ∀ x : Wld (KSame L w a l.length), x.w.cell? ⟨L, k / 729 % 9, none⟩ = some (.int .u64 (kv (k / 729 % 9) : Nat)) := fun x => x.ok.1.at (by omega)
              have cn : ∀ x : Wld (KSame L w a l.length), x.w.cell? ⟨L, n, none⟩ = some (.int .u64 (kv n : Nat)) := fun x => x.ok.1.at (by omega)
              have cm : ∀ x : Wld (KSame L w a l.length), x.w.cell? ⟨L, m, none⟩ = some (.int .u64 (kv m : Nat)) := fun x => x.ok.1.at (by omega)
              haveI hne : Nonempty (Wld (KSame L w a l.length)) := ⟨⟨_, HS.out⟩⟩
              go_wp2_with fail
              refine region_class (KSame L w a l.length) (by kernel_rfl) (by kernel_rfl) (HS.out.same (Below.refl _ _).drew) ?_
              repeat (go_big_quiet_step ((rename_i x; first
                | (go_at_call 4; exact (plays_any _ _ _ (wf_u64 (kv_lt _)) (wf_u64 (kv_lt _)) (wf_u64 (kv_lt _)) a l.length cap _ x.ok.2.2.1).mono fun e w' ⟨he, hb⟩ => ⟨he, ⟨w', x.ok.same hb⟩, rfl⟩)
                | (go_at_call 5; exact (waits_int _ _ _ _ _ _ (wf_u64 (kv_lt _)) (wf_u64 (kv_lt _)) (wf_u64 (kv_lt _)) (wf_u64 (kv_lt _)) (wf_u64 (kv_lt _)) (wf_u64 (kv_lt _)) _).mono fun e w' ⟨he, hb⟩ => ⟨he, ⟨w', x.ok.same hb⟩, rfl⟩))))
              refine wpQuiet_nil ?_
              intro w3 hS3
              have HS3 := Lib.hid hS3
              clear hS3 c1 c2 c3 c4 cn cm hne e1 HS
              go_wp2_with fail
              obtain ⟨hL3, hBel3, _, _⟩ := HS3.out
              obtain ⟨p, hp⟩ : ∃ p : Nat, n * m = p := ⟨_, rfl⟩
              have hp1 : p ≤ 81 := by rw [← hp]; exact Nat.mul_le_mul hn hm
              have f1 : (n : Int) * (m : Int) = (p : Int) := by rw [← hp]; simp
              obtain ⟨x5, f2, hx5⟩ : ∃ x : Nat, IntKind.u16.wrap (k : Int) = x ∧ x ≤ 65535 := by
                refine ⟨k % 65536, ?_, by omega⟩
                simp [IntKind.wrap, IntKind.signed, IntKind.bits]
              have f3 : IntKind.u16.wrap (IntKind.i64.wrap (p : Int)) = p := by rw [IntWalk.i64_in _ (by omega)]; exact IntWalk.u16_in _ (by omega)
              obtain ⟨q, hq⟩ : ∃ q : Nat, m * 5 = q := ⟨_, rfl⟩
              have f4 : (m : Int) * 5 = (q : Int) := by omega
              have hq1 : q ≤ 45 := by omega
              have f5 : IntKind.u16.wrap (IntKind.i64.wrap (q : Int)) = q := by rw [IntWalk.i64_in _ (by omega)]; exact IntWalk.u16_in _ (by omega)
              clear hp hq
              have kn : w3.cell? ⟨L, n, none⟩ = some (.int .u64 (kv n : Nat)) := hL3.at hn9
              have km : w3.cell? ⟨L, m, none⟩ = some (.int .u64 (kv m : Nat)) := hL3.at hm9
              go_cut [120] (KRel5 L w)
              case first =>
                go_region_held3 (fun w' => w'.cell? ⟨L, n, none⟩ = some (.int .u64 (kv n : Nat)) ∧ w'.cell? ⟨L, m, none⟩ = some (.int .u64 (kv m : Nat))) (go_keep)
                  (first
                    | (go_at_call 3; refine Calls.mono (bounds_seven_w p q (Nat.le_trans hp1 (by decide)) (Nat.le_trans hq1 (by decide)) (kv n) (kv m) x5 hx5 w3 _ _ _ ?_ ?_ ?_) ?_
                       · exact (((Below.refl _ _).alloc (Nat.le_refl _) _).alloc (by simp) _).drew
                       · first | exact alloc_block_at _ _ (by simp) | exact (alloc_block_old _ (by simp)).trans (alloc_block_new w3 _)
                       · first | exact alloc_block_at _ _ (by simp) | exact (alloc_block_old _ (by simp)).trans (alloc_block_new w3 _)
                       rintro e w4 ⟨rfl, hB4⟩; have n4 := (hB4.cell (p := ⟨L, n, none⟩) hL3.lt).trans kn; have m4 := (hB4.cell (p := ⟨L, m, none⟩) hL3.lt).trans km))
                all_goals
                  clear f1 f2 f3 f4 f5 kn km n4 m4
                  go_wp2
                  go_meet
                  case rel => exact ⟨rfl, (hB4.block L hL3.lt).trans hL3, hBel3.trans (hB4.mono hBel3.size)⟩
              case rest =>
                obtain ⟨rfl, hL5, hBel5⟩ := hcut
                have H5 := Lib.hid hL5
                have B5 := Lib.hid hBel5
                clear hL5 hBel5 f1 f2 f3 f4 f5 kn km hL3 hBel3 HS3
                go_wp2_with fail
                exact ⟨⟨k, m + 1, rfl, rfl, hk, by omega, H5.out, B5.out⟩, by simp [intOf]; omega⟩
        · have dm9 : decide ((m : Int) < 9) = false := by simp; omega
          go_wp2_with fail
          exact ⟨⟨k2, n + 1, rfl, rfl, hk2, by omega, hL2, hBel2⟩, by simp [intOf]; omega⟩
    · have dn9 : decide ((n : Int) < 9) = false := by simp; omega
      go_wp2_with fail
      refine (none_any _ _ _).mono ?_
      rintro e w3 ⟨rfl, hO3⟩
      have hBel3 := hBel1.trans (hO3.below hBel1.size (fun _ _ h => h))
      go_wp2_with fail
      refine (plays_any 1 1 1 (by decide) (by decide) (by decide) none 0 0 _ (.inl rfl)).mono ?_
      rintro e w4 ⟨rfl, hB4⟩
      have hBel4 := hBel3.trans (hB4.mono hBel3.size)
      go_wp2_with fail
      refine (works_any _).mono ?_
      rintro e w5 ⟨rfl, hO5⟩
      have hBel5 := hBel4.trans (hO5.below hBel4.size (fun _ _ h => h))
      go_wp2_with fail
      exact bodyPost_ret (v := .bool true) (by simp [results, Try.results7, go_sem]) rfl ⟨rfl, hBel5⟩
end Go.Proofs.Ytkghnapodbodkaa
