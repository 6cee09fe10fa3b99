/- Rows of rows of numbers; the order in which items went out: walked. -/
import Derived.Test.YthipfcmjpgbemaaTb
namespace Go.Proofs.Ythipfcmjpgbemaa
open Go.RowKit

def nCells (l : List Nat) : List Value := l.map fun (n : Nat) => Value.int .u64 (n : Int)
theorem nCells_get {l : List Nat} {k n : Nat} (h : l[k]? = some n) : (nCells l)[k]? = some (.int .u64 (n : Nat)) := by
  unfold nCells
  rw [List.getElem?_map, h]
  rfl
theorem nCells_snoc (l : List Nat) (n : Nat) : nCells l ++ [.int .u64 (n : Int)] = nCells (l ++ [n]) := by simp [nCells]

/-- Rows of numbers in a row: the block g; the rows' values ys. -/
structure OffR (w : World) (base g : Nat) (ys : List Value) (off : List (List Nat)) : Prop where
  ge : base ≤ g
  blk : ∃ cs : Array Value, w.heap[g]? = some (.cells cs 51 (0, 0)) ∧ cs.toList = ys
  len : ys.length = off.length
  rows : ∀ (c : Nat) (os : List Nat), off[c]? = some os → ∃ y, ys[c]? = some y ∧ w.ownsRow base 30 1 y os.length (nCells os)
  dj : ∀ (c d : Nat) (y z : Value), c ≠ d → ys[c]? = some y → ys[d]? = some z → ∀ k, y.ownBlock = some k → ¬ z.ownBlock = some k
/-- Its blocks. -/
def OffD (g : Nat) (ys : List Value) (k : Nat) : Prop := k = g ∨ ∃ c : Nat, ∃ y, ys[c]? = some y ∧ y.ownBlock = some k

theorem OffR.at {w : World} {base g : Nat} {ys : List Value} {off : List (List Nat)} (h : OffR w base g ys off) {c : Nat} {os : List Nat} (hc : off[c]? = some os) :
    ∃ y, ys[c]? = some y ∧ w.ownsRow base 30 1 y os.length (nCells os) ∧ w.cell? ⟨g, c, none⟩ = some y := by
  obtain ⟨y, hy, hr⟩ := h.rows c os hc
  obtain ⟨cs, hb, he⟩ := h.blk
  refine ⟨y, hy, hr, (cell_of_block hb c).trans ?_⟩
  rw [← he] at hy
  simpa using hy
theorem OffR.has {w : World} {base g : Nat} {ys : List Value} {off : List (List Nat)} (h : OffR w base g ys off) {c : Nat} {y : Value} (hy : ys[c]? = some y) : ∃ os, off[c]? = some os ∧ w.ownsRow base 30 1 y os.length (nCells os) := by
  have hc := (List.getElem?_eq_some_iff.1 hy).1
  obtain ⟨os, hos⟩ : ∃ os, off[c]? = some os := ⟨_, List.getElem?_eq_getElem (by rw [← h.len]; exact hc)⟩
  obtain ⟨y', hy', hr⟩ := h.rows c os hos
  rw [hy] at hy'
  injection hy' with hy'
  subst hy'
  exact ⟨os, hos, hr⟩
theorem OffR.keep {w w' : World} {base g : Nat} {ys : List Value} {off : List (List Nat)} (h : OffR w base g ys off) {T : Nat → Prop} (hO : Only T w w') (hT : ∀ k, OffD g ys k → ¬ T k) : OffR w' base g ys off :=
  ⟨h.ge, let ⟨cs, hb, he⟩ := h.blk; ⟨cs, hO.keep hb (hT g (.inl rfl)), he⟩, h.len, fun c os hc => let ⟨y, hy, hr⟩ := h.rows c os hc; ⟨y, hy, own_only hr hO (fun k hk => hT k (.inr ⟨c, y, hy, hk⟩))⟩, h.dj⟩
theorem OffR.below {w w' : World} {base g : Nat} {ys : List Value} {off : List (List Nat)} (h : OffR w base g ys off) (hB : Below w.heap.size w w') : OffR w' base g ys off := h.keep (Below.only hB (fun _ => False)) (fun _ _ h => h)
theorem OffR.lt {w : World} {base g : Nat} {ys : List Value} {off : List (List Nat)} (h : OffR w base g ys off) {k : Nat} (hk : OffD g ys k) : base ≤ k ∧ k < w.heap.size := by
  rcases hk with rfl | ⟨c, y, hy, hk⟩
  · obtain ⟨cs, hb, -⟩ := h.blk
    exact ⟨h.ge, lt_of_obj hb⟩
  · obtain ⟨os, -, hr⟩ := h.has hy
    obtain ⟨c', hc'⟩ := row_type hr k hk
    exact ⟨own_ge hr k hk, lt_of_obj hc'⟩
/-- What lies in its blocks. -/
theorem OffR.ty {w : World} {base g : Nat} {ys : List Value} {off : List (List Nat)} (h : OffR w base g ys off) {k : Nat} (hk : OffD g ys k) : ∃ c, w.heap[k]? = some (.cells c 51 (0, 0)) ∨ w.heap[k]? = some (.cells c 30 (0, 0)) := by
  rcases hk with rfl | ⟨c, y, hy, hk⟩
  · obtain ⟨cs, hb, -⟩ := h.blk
    exact ⟨cs, .inl hb⟩
  · obtain ⟨os, -, hr⟩ := h.has hy
    obtain ⟨c', hc'⟩ := row_type hr k hk
    exact ⟨c', .inr hc'⟩
theorem OffR.ne {w : World} {base g : Nat} {ys : List Value} {off : List (List Nat)} (h : OffR w base g ys off) {c : Nat} {y : Value} (hy : ys[c]? = some y) : ¬ y.ownBlock = some g := fun e => by
  obtain ⟨os, -, hr⟩ := h.has hy
  obtain ⟨c', hc'⟩ := row_type hr g e
  obtain ⟨cs, hb, -⟩ := h.blk
  rw [hb] at hc'
  injection hc' with hc'
  injection hc' with _ e2 _
  exact absurd e2 (by decide)

theorem info_u64n : (Try.prog.info? 30).map (fun i => (i.zero, i.size, i.bytes)) = some (some (Value.int .u64 0), 1, 8) := by kernel_rfl
theorem info_u64s : (Try.prog.info? 51).map (fun i => (i.zero, i.size, i.bytes)) = some (some (Value.slice none 0 0), 1, 24) := by kernel_rfl
theorem info_int : (Try.prog.info? 3).map (fun i => (i.zero, i.size, i.bytes)) = some (some (Value.int .i64 0), 1, 8) := by kernel_rfl
theorem made_list (z : Value) (hz : z.cells = #[z]) (n : Nat) : (madeCells z.cells n).toList = List.replicate n z := by
  apply List.ext_getElem?
  intro j
  by_cases hj : j < n
  · simp [madeCells, hz, hj, List.getElem?_replicate, Nat.mod_one]
  · have h1 : (madeCells z.cells n).toList.length = n := by simp [madeCells, hz]
    rw [List.getElem?_eq_none (by omega), List.getElem?_eq_none (by simp; omega)]
theorem make_offs (n : Nat) (hn : n ≤ 1000000) : ∃ C : Array Value, C.toList = List.replicate n (Value.slice none 0 0) ∧
    ∀ w : World, (Instr.makeSlice 47 (.int .i64 n) (.int .i64 n)).run Try.prog w = .ok (.slice (some ⟨w.heap.size, 0, none⟩) n n) (w.alloc (.cells C 51)) := by
  obtain ⟨i0, hi, hz0, hz1, hz2⟩ := info_parts info_u64s
  refine ⟨madeCells (Value.slice none 0 0).cells n, made_list _ rfl n, fun w => ?_⟩
  have h := run_makeSlice (P := Try.prog) w 47 51 i0 (.slice none 0 0) Try.underlying47 hi hz0 .i64 .i64 n n (by omega) (Int.le_refl _) (by rw [hz1]; simp; omega) (by rw [hz2]; omega) (by omega)
  rw [hz1] at h
  simpa using h
theorem make_ints (n : Nat) (hn : n ≤ 1000000) : ∃ C : Array Value, C.toList = List.replicate n (Value.int .i64 0) ∧
    ∀ w : World, (Instr.makeSlice 96 (.int .i64 n) (.int .i64 n)).run Try.prog w = .ok (.slice (some ⟨w.heap.size, 0, none⟩) n n) (w.alloc (.cells C 3)) := by
  obtain ⟨i0, hi, hz0, hz1, hz2⟩ := info_parts info_int
  refine ⟨madeCells (Value.int .i64 0).cells n, made_list _ rfl n, fun w => ?_⟩
  have h := run_makeSlice (P := Try.prog) w 96 3 i0 (.int .i64 0) Try.underlying96 hi hz0 .i64 .i64 n n (by omega) (Int.le_refl _) (by rw [hz1]; simp; omega) (by rw [hz2]; omega) (by omega)
  rw [hz1] at h
  simpa using h

/-- How many of each class went out of the first i. -/
structure NextR (w : World) (g N : Nat) (L : List OutR) (i : Nat) : Prop where
  ex : ∃ cs : Array Value, w.heap[g]? = some (.cells cs 3 (0, 0)) ∧ cs.size = N ∧ ∀ c, c < N → cs[c]? = some (.int .i64 ((nosC c (L.take i)).length : Nat))
theorem NextR.at {w : World} {g N : Nat} {L : List OutR} {i c : Nat} (h : NextR w g N L i) (hc : c < N) : w.cell? ⟨g, c, none⟩ = some (.int .i64 ((nosC c (L.take i)).length : Nat)) := by
  obtain ⟨cs, hb, -, hx⟩ := h.ex
  exact (cell_of_block hb c).trans (hx c hc)
theorem NextR.fr {w : World} {g N : Nat} {L : List OutR} {i : Nat} (h : NextR w g N L i) (c : Nat) : w.frozen? ⟨g, c, none⟩ = false := by
  obtain ⟨cs, hb, -, hx⟩ := h.ex
  exact free_of_block hb c
theorem NextR.below {w w' : World} {g N : Nat} {L : List OutR} {i : Nat} (h : NextR w g N L i) (hB : Below w.heap.size w w') : NextR w' g N L i := by
  obtain ⟨cs, hb, hx⟩ := h.ex
  exact ⟨cs, (hB.block _ (lt_of_obj hb)).trans hb, hx⟩
theorem NextR.put {w : World} {g N : Nat} {L : List OutR} {i m : Nat} {o : OutR} (h : NextR w g N L i) (hi : L[i]? = some o) (hm : (nosC o.cls (L.take i)).length + 1 = m) : NextR (w.setCell ⟨g, o.cls, none⟩ (.int .i64 m)) g N L (i + 1) := by
  obtain ⟨cs, hb, hs, hx⟩ := h.ex
  refine ⟨_, setCell_block hb _ _, by rw [Array.size_setIfInBounds]; exact hs, fun c hc => ?_⟩
  rw [nosC_take hi]
  by_cases e : c = o.cls
  · subst e
    rw [Array.getElem?_setIfInBounds_self_of_lt (by omega), if_pos rfl, List.length_append, ← hm]
    rfl
  · rw [Array.getElem?_setIfInBounds_ne (fun h => e h.symm), if_neg (fun h => e h.symm), List.append_nil]
    exact hx c hc
def TRel (W : World) (g N : Nat) (L : List OutR) (iv : Value) (w : World) : Prop := ∃ i : Nat, iv = .int .i64 i ∧ i ≤ L.length ∧ NextR w g N L i ∧ Below W.heap.size W w

set_option maxHeartbeats 1000000 in
set_option maxRecDepth 100000 in
theorem ordered_is {w : World} {vo : Value} {l : List Cl} {S : Sh} {base g N : Nat} {ys : List Value} {off : List (List Nat)} {L : List OutR} {F : Nat → Prop} {xs : List Value} (ho : OffR w base g ys off) (hg : GotR w F vo xs L) (hF : Fair l S off L)
    (hN : off.length = N) (hov : ∀ os ∈ off, os.length ≤ 100000) (h8 : N ≤ 8) (hn : L.length ≤ 100000) :
    Calls Try.prog 19 #[.slice (some ⟨g, 0, none⟩) N N, vo] w fun e w' => e = .returned (.bool true) ∧ Below w.heap.size w w' := by
  obtain ⟨oa, oc, eo⟩ := own_shape hg.row
  subst eo
  have HO := Lib.hid ho
  have HG := Lib.hid hg
  have HF := Lib.hid hF
  obtain ⟨C, hC, hmk⟩ := make_ints N (by omega)
  have hgw := (ho.lt (.inl rfl)).2
  have hov := Lib.hid hov
  clear ho hg hF
  go_enter Try.func19, Try.ntmps19
  go_wp2_with fail
  have hA : Below w.heap.size w (w.alloc (.cells C 3)) := (Below.refl _ _).alloc (Nat.le_refl _) _
  have gN := alloc_block_new w (.cells C 3)
  have HN : Hid (NextR (w.alloc (.cells C 3)) w.heap.size N L 0) := Lib.hid ⟨C, gN, by rw [← Array.length_toList, hC]; simp, fun c hc => by
    rw [← Array.getElem?_toList, hC, List.getElem?_replicate, if_pos hc]
    rfl⟩
  have HA := Lib.hid hA
  clear hA gN hmk hC
  generalize hbw : w.heap.size = bw at *
  generalize w.alloc (.cells C 3) = w1 at *
  go_loopw [6] (TRel w bw N L) (fun i _ => L.length - (intOf i).toNat)
  case atStart => exact ⟨0, rfl, Nat.zero_le _, HN.out, by rw [hbw]; exact HA.out⟩
  case round =>
    clear HN HA
    obtain ⟨i, rfl, hi, hN2, hB⟩ := hrel
    by_cases hil : i < L.length
    · obtain ⟨o, hoi⟩ : ∃ o, L[i]? = some o := ⟨_, List.getElem?_eq_getElem hil⟩
      obtain ⟨hoc, hoa, hos⟩ := HF.out.cl o (List.mem_of_getElem? hoi)
      have hoN : o.cls < N := by rw [← hN, HF.out.lo]; exact hoc
      obtain ⟨M, hM⟩ : ∃ M, S.ls[o.cls]? = some M := ⟨_, List.getElem?_eq_getElem (by rw [HF.out.ll]; exact hoc)⟩
      obtain ⟨os, hof⟩ : ∃ os, off[o.cls]? = some os := ⟨_, List.getElem?_eq_getElem (by rw [hN]; exact hoN)⟩
      have hor := HF.out.ord o.cls M os hM hof
      obtain ⟨hna, hnb⟩ := nosC_at hoi (M.Q.L.map It.no)
      rw [← hor] at hna hnb
      obtain ⟨y, hy, hrow, hyc⟩ := HO.out.at hof
      obtain ⟨gy, cy, rfl, hgy, hgyl⟩ := own_slice hrow (by omega)
      have hycell := hrow.cells (g := gy) rfl _ _ (nCells_get hnb)
      rw [Addr.add_lit, Nat.zero_add] at hycell
      obtain ⟨g1, cap, eg, hgl, hcell⟩ := HG.out.at (by omega)
      injection eg with eg1 eg2 eg3
      subst eg1 eg3
      clear eg2
      obtain ⟨e0, e1, yy, hyy⟩ := HG.out.cs i o hoi
      have e2 := hyy.c0
      have z0 := (hB.cell (p := ⟨g1, _, none⟩) hgl).trans (hcell _ _ e0)
      have z1 := (hB.cell (p := ⟨g1, _, none⟩) hgl).trans (hcell _ _ e1)
      have z2 := (hB.cell (p := ⟨g1, _, none⟩) hgl).trans (hcell _ _ e2)
      have zy := (hB.cell (p := ⟨g, _, none⟩) (by rw [hbw]; exact hgw)).trans hyc
      have zn := (hB.cell (p := ⟨gy, _, none⟩) hgyl).trans hycell
      have zx := hN2.at hoN
      have zf := hN2.fr o.cls
      obtain ⟨m, hm⟩ : ∃ m, (nosC o.cls (L.take i)).length = m := ⟨_, rfl⟩
      rw [hm] at zx zn hna
      have hii : (i : Int) < (L.length : Int) := by omega
      have hoNi : (o.cls : Int) < (N : Int) := by omega
      have hmi : (m : Int) < (os.length : Int) := by omega
      have hosl := hov.out os (List.mem_of_getElem? hof)
      have hni : ¬ (os.length : Int) ≤ (m : Int) := by omega
      have hnd : decide (os.length ≤ m) = false := decide_eq_false (by omega)
      have HNX := Lib.hid hN2
      have HB := Lib.hid hB
      have HM : Hid (∀ w', Below wr.heap.size wr w' → TRel w bw N L (.int .i64 (i + 1 : Nat)) (w'.setCell ⟨bw, o.cls, none⟩ (.int .i64 (m + 1 : Nat)))) := Lib.hid fun w' hB' => ⟨i + 1, rfl, hil, (hN2.below hB').put hoi (by rw [hm]), (hB.trans (hB'.mono hB.size)).setCell (p := ⟨bw, _, none⟩) (by rw [hbw]; exact Nat.le_refl _) _⟩
      have HC := Lib.hid hcell
      clear hB hN2 e0 e1 e2 hyy hrow hy hyc hcell hor hnb hof hM
      by_cases h0 : i = 0
      · have hi0 : ¬ (0 : Int) < (i : Int) := by omega
        have hi0' : ¬ 0 < i := by omega
        have hi0d : decide (0 < i) = false := decide_eq_false hi0'
        clear h0
        go_wp2_with fail
        go_quiet (fail)
        all_goals
          go_wp2_with fail
          go_roundw
          case rel => exact HM.out _ (below_drewN (Below.refl _ _) _)
          case measure => simp [intOf]; omega
      · obtain ⟨o2, hoj⟩ : ∃ o2, L[i - 1]? = some o2 := ⟨_, List.getElem?_eq_getElem (by omega)⟩
        obtain ⟨f0, -, -⟩ := HG.out.cs (i - 1) o2 hoj
        have y0 := (HB.out.cell (p := ⟨g1, _, none⟩) hgl).trans (HC.out _ _ f0)
        have y1 := y0
        rw [show i - 1 = ((i : Int) - 1).toNat by omega] at y1
        have hle : o2.at' ≤ o.at' := by
          obtain ⟨h1l, h1e⟩ := List.getElem?_eq_some_iff.1 hoi
          obtain ⟨h2l, h2e⟩ := List.getElem?_eq_some_iff.1 hoj
          have := List.pairwise_iff_getElem.1 HF.out.up (i - 1) i h2l h1l (by omega)
          rw [h1e, h2e] at this
          exact this
        have hi0 : (0 : Int) < (i : Int) := by omega
        have hi0' : 0 < i := by omega
        have hi0d : decide (0 < i) = true := decide_eq_true hi0'
        have hi1 : (0 : Int) ≤ (i : Int) - 1 := by omega
        have hi2 : (i : Int) - 1 < (L.length : Int) := by omega
        have hwi : IntKind.i64.wrap ((i : Int) - 1) = (i : Int) - 1 := IntWalk.i64_in _ (by omega)
        have hlt : ¬ (o.at' : Int) < (o2.at' : Int) := by omega
        clear f0 hle h0
        go_wp2_with fail
        go_quiet (fail)
        all_goals
          go_wp2_with fail
          go_roundw
          case rel => exact HM.out _ (below_drewN (Below.refl _ _) _)
          case measure => simp [intOf]; omega
    · have hii : ¬ (i : Int) < (L.length : Int) := by omega
      have HB := Lib.hid hB
      clear hB hN2
      go_wp2_with fail
      go_ret
      exact ⟨rfl, by rw [hbw] at HB; exact HB.out⟩
end Go.Proofs.Ythipfcmjpgbemaa
