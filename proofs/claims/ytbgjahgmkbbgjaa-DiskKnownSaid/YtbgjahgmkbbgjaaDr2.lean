/- The document's disk: Part, New, Sync, walked. -/
import Derived.Test.YtbgjahgmkbbgjaaDr1
import Derived.Deep.RegionHeld3
import Derived.RegionTactic
namespace Go.Proofs.Ytbgjahgmkbbgjaa
open Go.RowKit

theorem bytesWorld_below (w : World) (e : TypeId) (s : ByteArray) : Below w.heap.size w (Lib.bytesWorld w e s) :=
  ⟨rfl, rfl, rfl, by rw [Lib.bytesWorld_size]; omega, fun k hk => Lib.bytesWorld_at_old w e s k hk⟩
theorem bytes_holds (w : World) (zs : List Nat) (c : Nat) (hc : zs.length ≤ c) : Holds8 (Lib.bytesWorld w 5 (str8 zs)) (.slice (some ⟨w.heap.size, 0, none⟩) (str8 zs).size c) (nrm zs) := by
  have hl := str8_size zs
  refine ⟨_, c, by rw [hl, nrm_len], by rw [nrm_len]; exact hc, by simp, fun _ x hx => by injection hx with hx; subst hx; rw [Lib.bytesWorld_size]; show w.heap.size < _; omega, fun _ => ⟨w.heap.size, 0, rfl, fun j hj => ?_⟩⟩
  rw [nrm_len] at hj
  rw [Nat.zero_add, Lib.bytesWorld_cell w _ _ j (by omega), str8_data]
  simp [nrm, List.getD, hj]

/-- Behind Part, where they lie there. -/
def PartOk (w : World) (zs : List Nat) (e : Ending) (w' : World) : Prop := ∃ v, e = .returned (.tuple #[v, .int .i64 0]) ∧ Own8 w' w.heap.size v (nrm zs) ∧ Below w.heap.size w w'

set_option maxRecDepth 100000 in
theorem rpart_on (dur all : List Nat) (v : Value) (hv : ∃ ao n c, v = .slice ao n c) (i k : Nat) (hN : dur.length ≤ 65536) (ha : all.length = dur.length) (hik : i + k ≤ dur.length) (w : World) :
    Calls Try.prog 39 #[rd dur v, .string (str8 all), .int .i64 i, .int .i64 k] w (PartOk w ((all.drop i).take k)) := by
  obtain ⟨ao, m, c, rfl⟩ := hv
  have hB : Below w.heap.size w (w.alloc (.cells #[.string (str8 dur), .slice ao m c] 66)) := (Below.refl _ _).alloc (Nat.le_refl _) _
  have hl := rlies_is dur (.slice ao m c) ⟨_, _, _, rfl⟩ i k hN (w.alloc (.cells #[.string (str8 dur), .slice ao m c] 66))
  have e : liesB dur.length i k = true := by simp [liesB]; omega
  rw [e] at hl
  unfold rd at *
  have HL := Lib.hid hl
  have HB := Lib.hid hB
  have hs := str8_size all
  rw [ha] at hs
  have hx : (str8 all).extract i (i + k) = str8 ((all.drop i).take k) := by rw [str8_extract, Nat.add_sub_cancel_left]
  have hkl : ((all.drop i).take k).length = k := by simp; omega
  have HX := Lib.hid hx
  have HKL := Lib.hid hkl
  have hcv : ∀ z : World, (convert 9 31 (.string ((str8 all).extract i (i + k)))).run Try.prog z = .ok (.slice (some ⟨z.heap.size, 0, none⟩) (str8 ((all.drop i).take k)).size (grownCap z (str8 ((all.drop i).take k)).size 0 5)) (Lib.bytesWorld z 5 (str8 ((all.drop i).take k))) := fun z => by
    rw [hx]
    exact Lib.run_convert_string_bytes z _ _ _ _ Try.underlying9 Try.underlying31 Try.underlying5
  clear hl e hB hx hkl
  generalize str8 all = sa at *
  go_enter Try.func39, Try.ntmps39
  go_wp2_with fail
  refine HL.out.mono ?_
  rintro e w1 ⟨rfl, hB1⟩
  have HB1 := Lib.hid (HB.out.trans (hB1.mono HB.out.size))
  clear hB1 HB HL
  go_wp2_with fail
  have hgc := grownCap_ge w1 (str8 ((all.drop i).take k)).size 0 5
  rw [str8_size] at hgc
  have hBy := bytesWorld_below w1 5 (str8 ((all.drop i).take k))
  refine (join_is _ (nrm ((all.drop i).take k)) _ (bytes_holds w1 ((all.drop i).take k) _ (by rw [str8_size]; exact hgc)) (by rw [nrm_len, HKL.out]; omega)).mono ?_
  rintro e w2 ⟨y, rfl, hy, hB2⟩
  have hb := hBy.size
  have hb1 := HB1.out.size
  have HY := Lib.hid (own_lower hy (Nat.le_trans hb1 hb))
  have HB2 := Lib.hid ((HB1.out.trans (hBy.mono hb1)).trans (hB2.mono (Nat.le_trans hb1 hb)))
  clear hcv hgc hBy hb hb1 hy hB2
  go_wp2_with fail
  go_ret2
  exact ⟨_, rfl, HY.out, HB2.out⟩

theorem rpart_off (dur : List Nat) (s : ByteArray) (v : Value) (hv : ∃ ao n c, v = .slice ao n c) (a n : Int) (hN : dur.length ≤ 65536) (hl : liesB dur.length a n = false) (w : World) :
    Calls Try.prog 39 #[rd dur v, .string s, .int .i64 a, .int .i64 n] w fun e w' => e = .returned (.tuple #[.slice none 0 0, .int .i64 130]) ∧ Below w.heap.size w w' := by
  obtain ⟨ao, m, c, rfl⟩ := hv
  have hB : Below w.heap.size w (w.alloc (.cells #[.string (str8 dur), .slice ao m c] 66)) := (Below.refl _ _).alloc (Nat.le_refl _) _
  have h := rlies_is dur (.slice ao m c) ⟨_, _, _, rfl⟩ a n hN (w.alloc (.cells #[.string (str8 dur), .slice ao m c] 66))
  rw [hl] at h
  unfold rd at *
  have HL := Lib.hid h
  have HB := Lib.hid hB
  clear h hB hl
  go_enter Try.func39, Try.ntmps39
  go_wp2_with fail
  refine HL.out.mono ?_
  rintro e w1 ⟨rfl, hB1⟩
  have HB1 := Lib.hid (HB.out.trans (hB1.mono HB.out.size))
  clear hB1 HB HL
  go_wp2_with fail
  go_ret2
  exact ⟨rfl, HB1.out⟩

theorem str8_rd0 : rd [] (.slice none 0 0) = .agg #[.string ⟨#[]⟩, .slice none 0 0] := by unfold rd; rw [str8_empty]

theorem rnew_bad (n : Int) (c : Int) (h : (n < 0 ∧ c = 2) ∨ (65536 < n ∧ c = 3)) (w : World) :
    Calls Try.prog 33 #[.int .i64 n] w fun e w' => e = .returned (.tuple #[rd [] (.slice none 0 0), .int .i64 c]) ∧ Below w.heap.size w w' := by
  rw [str8_rd0]
  rcases h with ⟨h, rfl⟩ | ⟨h, rfl⟩
  · go_enter Try.func33, Try.ntmps33
    go_wp2_with fail
    exact bodyPost_ret (v := .tuple #[.agg #[.string ⟨#[]⟩, .slice none 0 0], .int .i64 2]) (by simp [results, Try.results33, go_sem]) rfl ⟨rfl, by simpa using (Below.refl _ _).alloc (Nat.le_refl _) _⟩
  · have h0 : ¬ n < 0 := by omega
    go_enter Try.func33, Try.ntmps33
    go_wp2_with fail
    exact bodyPost_ret (v := .tuple #[.agg #[.string ⟨#[]⟩, .slice none 0 0], .int .i64 3]) (by simp [results, Try.results33, go_sem]) rfl ⟨rfl, by simpa using (Below.refl _ _).alloc (Nat.le_refl _) _⟩

theorem dnew_bad (n : Int) (c : Int) (h : (n < 0 ∧ c = 2) ∨ (65536 < n ∧ c = 3)) (w : World) :
    Calls Try.prog 9 #[.int .i64 n] w fun e w' => e = .returned (.tuple #[.pointer none, .int .i64 c]) ∧ w' = w := by
  rcases h with ⟨h, rfl⟩ | ⟨h, rfl⟩
  · go_enter Try.func9, Try.ntmps9
    go_wp2_with fail
    go_ret2
    exact ⟨rfl, rfl⟩
  · have h0 : ¬ n < 0 := by omega
    go_enter Try.func9, Try.ntmps9
    go_wp2_with fail
    go_ret2
    exact ⟨rfl, rfl⟩

theorem rnew_ok (n : Nat) (hn : n ≤ 65536) (w : World) :
    Calls Try.prog 33 #[.int .i64 n] w fun e w' => e = .returned (.tuple #[rd (List.replicate n 0) (.slice none 0 0), .int .i64 0]) ∧ Below w.heap.size w w' := by
  unfold rd
  have hB1 : Below w.heap.size w (w.alloc (.cells #[.string ⟨#[]⟩, .slice none 0 0] 66)) := (Below.refl _ _).alloc (Nat.le_refl _) _
  obtain ⟨C, hC, mk⟩ := make_u8 n hn (w.alloc (.cells #[.string ⟨#[]⟩, .slice none 0 0] 66))
  have hg : ((w.alloc (.cells #[.string ⟨#[]⟩, .slice none 0 0] 66)).alloc (.cells C 5)).heap[w.heap.size + 1]? = some (.cells C 5 (0, 0)) := alloc_block_at _ _ (by simp)
  have hcv := conv8 (own_zeros hn hC hg).holds
  have hB2 : Below w.heap.size w ((w.alloc (.cells #[.string (str8 (List.replicate n 0)), .slice none 0 0] 66)).alloc (.cells C 5)) := ((Below.refl _ _).alloc (Nat.le_refl _) _).alloc (by simp) _
  have HB2 := Lib.hid hB2
  clear hC hg hB1 hB2
  generalize str8 (List.replicate n 0) = s at *
  go_enter Try.func33, Try.ntmps33
  go_wp2_with fail
  exact bodyPost_ret (v := .tuple #[.agg #[.string s, .slice none 0 0], .int .i64 0]) (by simp [results, Try.results33, go_sem]) rfl ⟨rfl, HB2.out⟩

theorem rsync_is (dur : List Nat) {w : World} {B : Nat} {v : Value} {L : List (Nat × List Nat)} (h : RW w B v L) (hN : dur.length ≤ 65536) (hL : Lie dur.length L) (hl : L.length ≤ 1000000) :
    Calls Try.prog 36 #[rd dur v] w fun e w' => e = .returned (rd (nowOf dur L) (.slice none 0 0)) ∧ Below w.heap.size w w' := by
  obtain ⟨ao, c, rfl⟩ := h.shape
  have hB : Below w.heap.size w ((w.alloc (.cells #[.string (str8 dur), .slice ao L.length c] 66)).alloc (.cells #[.string ⟨#[]⟩, .slice none 0 0] 66)) := ((Below.refl _ _).alloc (Nat.le_refl _) _).alloc (by simp) _
  have hg := alloc_block_new (w.alloc (.cells #[.string (str8 dur), .slice ao L.length c] 66)) (.cells #[.string ⟨#[]⟩, .slice none 0 0] 66)
  have hn := rnow_is dur (h.below hB) hN hL hl
  unfold rd at *
  have HN := Lib.hid hn
  have HB := Lib.hid hB
  have HG := Lib.hid hg
  clear h hB hn hg hL
  generalize str8 (nowOf dur L) = s at *
  go_enter Try.func36, Try.ntmps36
  go_wp2_with fail
  refine HN.out.mono ?_
  rintro e w1 ⟨rfl, hB1⟩
  have hg1 := (hB1.block _ (lt_of_obj HG.out)).trans HG.out
  have hBx := HB.out.trans (hB1.mono HB.out.size)
  obtain ⟨g, eg⟩ : ∃ t, (w.alloc (.cells #[.string (str8 dur), .slice ao L.length c] 66)).heap.size = t := ⟨_, rfl⟩
  have eg' : w.heap.size + 1 = g := by rw [← eg]; simp
  rw [eg] at hg1
  rw [eg']
  have hge : w.heap.size ≤ g := by omega
  have m0 : w1.cell? ⟨g, 0, none⟩ = _ := cell_of_block hg1 0
  have m1 : w1.cell? ⟨g, 1, none⟩ = _ := cell_of_block hg1 1
  have f0 := free_of_block hg1 0
  have f1 := free_of_block hg1 1
  dsimp at m0 m1
  have HBX := Lib.hid hBx
  clear hg1 hB1 hBx HB HG HN eg eg'
  go_wp2_with fail
  exact bodyPost_ret (v := .agg #[.string s, .slice none 0 0]) (by simp [results, Try.results36, go_sem, m0, m1]) rfl ⟨rfl, (HBX.out.setCell (p := ⟨g, 0, none⟩) hge _).setCell (p := ⟨g, 1, none⟩) hge _⟩
end Go.Proofs.Ytbgjahgmkbbgjaa
