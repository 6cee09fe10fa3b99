/- Rows of rows of numbers; the order in which items went out: walked. -/
import Derived.Test.YthipfcmjpgbemaaGx
namespace Go.Proofs.Ythipfcmjpgbemaa
open Go.RowKit

def nCells (l : List Nat) : List Value := l.map fun (n : Nat) => Value.int .u64 (n : Int)
theorem nCells_get {l : List Nat} {k n : Nat} (h : l[k]? = some n) : (nCells l)[k]? = some (.int .u64 (n : Nat)) := by
  unfold nCells
  rw [List.getElem?_map, h]
  rfl
theorem nCells_snoc (l : List Nat) (n : Nat) : nCells l ++ [.int .u64 (n : Int)] = nCells (l ++ [n]) := by simp [nCells]

/-- Rows of numbers in a row: the block g; the rows' values ys. -/
structure OffR (w : World) (base g : Nat) (ys : List Value) (off : List (List Nat)) : Prop where
  ge : base ≤ g
  blk : ∃ cs : Array Value, w.heap[g]? = some (.cells cs 51 (0, 0)) ∧ cs.toList = ys
  len : ys.length = off.length
  rows : ∀ (c : Nat) (os : List Nat), off[c]? = some os → ∃ y, ys[c]? = some y ∧ w.ownsRow base 30 1 y os.length (nCells os)
  dj : ∀ (c d : Nat) (y z : Value), c ≠ d → ys[c]? = some y → ys[d]? = some z → ∀ k, y.ownBlock = some k → ¬ z.ownBlock = some k
/-- Its blocks. -/
def OffD (g : Nat) (ys : List Value) (k : Nat) : Prop := k = g ∨ ∃ c : Nat, ∃ y, ys[c]? = some y ∧ y.ownBlock = some k

theorem OffR.at {w : World} {base g : Nat} {ys : List Value} {off : List (List Nat)} (h : OffR w base g ys off) {c : Nat} {os : List Nat} (hc : off[c]? = some os) :
    ∃ y, ys[c]? = some y ∧ w.ownsRow base 30 1 y os.length (nCells os) ∧ w.cell? ⟨g, c, none⟩ = some y := by
  obtain ⟨y, hy, hr⟩ := h.rows c os hc
  obtain ⟨cs, hb, he⟩ := h.blk
  refine ⟨y, hy, hr, (cell_of_block hb c).trans ?_⟩
  rw [← he] at hy
  simpa using hy
theorem OffR.has {w : World} {base g : Nat} {ys : List Value} {off : List (List Nat)} (h : OffR w base g ys off) {c : Nat} {y : Value} (hy : ys[c]? = some y) : ∃ os, off[c]? = some os ∧ w.ownsRow base 30 1 y os.length (nCells os) := by
  have hc := (List.getElem?_eq_some_iff.1 hy).1
  obtain ⟨os, hos⟩ : ∃ os, off[c]? = some os := ⟨_, List.getElem?_eq_getElem (by rw [← h.len]; exact hc)⟩
  obtain ⟨y', hy', hr⟩ := h.rows c os hos
  rw [hy] at hy'
  injection hy' with hy'
  subst hy'
  exact ⟨os, hos, hr⟩
theorem OffR.keep {w w' : World} {base g : Nat} {ys : List Value} {off : List (List Nat)} (h : OffR w base g ys off) {T : Nat → Prop} (hO : Only T w w') (hT : ∀ k, OffD g ys k → ¬ T k) : OffR w' base g ys off :=
  ⟨h.ge, let ⟨cs, hb, he⟩ := h.blk; ⟨cs, hO.keep hb (hT g (.inl rfl)), he⟩, h.len, fun c os hc => let ⟨y, hy, hr⟩ := h.rows c os hc; ⟨y, hy, own_only hr hO (fun k hk => hT k (.inr ⟨c, y, hy, hk⟩))⟩, h.dj⟩
theorem OffR.below {w w' : World} {base g : Nat} {ys : List Value} {off : List (List Nat)} (h : OffR w base g ys off) (hB : Below w.heap.size w w') : OffR w' base g ys off := h.keep (Below.only hB (fun _ => False)) (fun _ _ h => h)
theorem OffR.lt {w : World} {base g : Nat} {ys : List Value} {off : List (List Nat)} (h : OffR w base g ys off) {k : Nat} (hk : OffD g ys k) : base ≤ k ∧ k < w.heap.size := by
  rcases hk with rfl | ⟨c, y, hy, hk⟩
  · obtain ⟨cs, hb, -⟩ := h.blk
    exact ⟨h.ge, lt_of_obj hb⟩
  · obtain ⟨os, -, hr⟩ := h.has hy
    obtain ⟨c', hc'⟩ := row_type hr k hk
    exact ⟨own_ge hr k hk, lt_of_obj hc'⟩
/-- What lies in its blocks. -/
theorem OffR.ty {w : World} {base g : Nat} {ys : List Value} {off : List (List Nat)} (h : OffR w base g ys off) {k : Nat} (hk : OffD g ys k) : ∃ c, w.heap[k]? = some (.cells c 51 (0, 0)) ∨ w.heap[k]? = some (.cells c 30 (0, 0)) := by
  rcases hk with rfl | ⟨c, y, hy, hk⟩
  · obtain ⟨cs, hb, -⟩ := h.blk
    exact ⟨cs, .inl hb⟩
  · obtain ⟨os, -, hr⟩ := h.has hy
    obtain ⟨c', hc'⟩ := row_type hr k hk
    exact ⟨c', .inr hc'⟩
theorem OffR.ne {w : World} {base g : Nat} {ys : List Value} {off : List (List Nat)} (h : OffR w base g ys off) {c : Nat} {y : Value} (hy : ys[c]? = some y) : ¬ y.ownBlock = some g := fun e => by
  obtain ⟨os, -, hr⟩ := h.has hy
  obtain ⟨c', hc'⟩ := row_type hr g e
  obtain ⟨cs, hb, -⟩ := h.blk
  rw [hb] at hc'
  injection hc' with hc'
  injection hc' with _ e2 _
  exact absurd e2 (by decide)

theorem info_u64n : (Try.prog.info? 30).map (fun i => (i.zero, i.size, i.bytes)) = some (some (Value.int .u64 0), 1, 8) := by kernel_rfl
theorem info_u64s : (Try.prog.info? 51).map (fun i => (i.zero, i.size, i.bytes)) = some (some (Value.slice none 0 0), 1, 24) := by kernel_rfl
theorem info_int : (Try.prog.info? 3).map (fun i => (i.zero, i.size, i.bytes)) = some (some (Value.int .i64 0), 1, 8) := by kernel_rfl
theorem made_list (z : Value) (hz : z.cells = #[z]) (n : Nat) : (madeCells z.cells n).toList = List.replicate n z := by
  apply List.ext_getElem?
  intro j
  by_cases hj : j < n
  · simp [madeCells, hz, hj, List.getElem?_replicate, Nat.mod_one]
  · have h1 : (madeCells z.cells n).toList.length = n := by simp [madeCells, hz]
    rw [List.getElem?_eq_none (by omega), List.getElem?_eq_none (by simp; omega)]
theorem make_offs (n : Nat) (hn : n ≤ 1000000) : ∃ C : Array Value, C.toList = List.replicate n (Value.slice none 0 0) ∧
    ∀ w : World, (Instr.makeSlice 47 (.int .i64 n) (.int .i64 n)).run Try.prog w = .ok (.slice (some ⟨w.heap.size, 0, none⟩) n n) (w.alloc (.cells C 51)) := by
  obtain ⟨i0, hi, hz0, hz1, hz2⟩ := info_parts info_u64s
  refine ⟨madeCells (Value.slice none 0 0).cells n, made_list _ rfl n, fun w => ?_⟩
  have h := run_makeSlice (P := Try.prog) w 47 51 i0 (.slice none 0 0) Try.underlying47 hi hz0 .i64 .i64 n n (by omega) (Int.le_refl _) (by rw [hz1]; simp; omega) (by rw [hz2]; omega) (by omega)
  rw [hz1] at h
  simpa using h
theorem make_ints (n : Nat) (hn : n ≤ 1000000) : ∃ C : Array Value, C.toList = List.replicate n (Value.int .i64 0) ∧
    ∀ w : World, (Instr.makeSlice 96 (.int .i64 n) (.int .i64 n)).run Try.prog w = .ok (.slice (some ⟨w.heap.size, 0, none⟩) n n) (w.alloc (.cells C 3)) := by
  obtain ⟨i0, hi, hz0, hz1, hz2⟩ := info_parts info_int
  refine ⟨madeCells (Value.int .i64 0).cells n, made_list _ rfl n, fun w => ?_⟩
  have h := run_makeSlice (P := Try.prog) w 96 3 i0 (.int .i64 0) Try.underlying96 hi hz0 .i64 .i64 n n (by omega) (Int.le_refl _) (by rw [hz1]; simp; omega) (by rw [hz2]; omega) (by omega)
  rw [hz1] at h
  simpa using h

/-- How many of each class went out of the first i. -/
structure NextR (w : World) (g N : Nat) (L : List OutR) (i : Nat) : Prop where
  ex : ∃ cs : Array Value, w.heap[g]? = some (.cells cs 3 (0, 0)) ∧ cs.size = N ∧ ∀ c, c < N → cs[c]? = some (.int .i64 ((nosC c (L.take i)).length : Nat))
theorem NextR.at {w : World} {g N : Nat} {L : List OutR} {i c : Nat} (h : NextR w g N L i) (hc : c < N) : w.cell? ⟨g, c, none⟩ = some (.int .i64 ((nosC c (L.take i)).length : Nat)) := by
  obtain ⟨cs, hb, -, hx⟩ := h.ex
  exact (cell_of_block hb c).trans (hx c hc)
theorem NextR.fr {w : World} {g N : Nat} {L : List OutR} {i : Nat} (h : NextR w g N L i) (c : Nat) : w.frozen? ⟨g, c, none⟩ = false := by
  obtain ⟨cs, hb, -, hx⟩ := h.ex
  exact free_of_block hb c
theorem NextR.below {w w' : World} {g N : Nat} {L : List OutR} {i : Nat} (h : NextR w g N L i) (hB : Below w.heap.size w w') : NextR w' g N L i := by
  obtain ⟨cs, hb, hx⟩ := h.ex
  exact ⟨cs, (hB.block _ (lt_of_obj hb)).trans hb, hx⟩
theorem NextR.put {w : World} {g N : Nat} {L : List OutR} {i m : Nat} {o : OutR} (h : NextR w g N L i) (hi : L[i]? = some o) (hm : (nosC o.cls (L.take i)).length + 1 = m) : NextR (w.setCell ⟨g, o.cls, none⟩ (.int .i64 m)) g N L (i + 1) := by
  obtain ⟨cs, hb, hs, hx⟩ := h.ex
  refine ⟨_, setCell_block hb _ _, by rw [Array.size_setIfInBounds]; exact hs, fun c hc => ?_⟩
  rw [nosC_take hi]
  by_cases e : c = o.cls
  · subst e
    rw [Array.getElem?_setIfInBounds_self_of_lt (by omega), if_pos rfl, List.length_append, ← hm]
    rfl
  · rw [Array.getElem?_setIfInBounds_ne (fun h => e h.symm), if_neg (fun h => e h.symm), List.append_nil]
    exact hx c hc
def TRel (W : World) (g N : Nat) (L : List OutR) (iv : Value) (w : World) : Prop := ∃ i : Nat, iv = .int .i64 i ∧ i ≤ L.length ∧ NextR w g N L i ∧ Below W.heap.size W w

set_option maxHeartbeats 1000000 in
set_option maxRecDepth 100000 in
theorem ordered_is {w : World} {vo : Value} {l : List Cl} {S : Sh} {base g N : Nat} {ys : List Value} {off : List (List Nat)} {L : List OutR} {F : Nat → Prop} {xs : List Value} (ho : OffR w base g ys off) (hg : GotR w F vo xs L) (hF : Fair l S off L)
    (hN : off.length = N) (hov : ∀ os ∈ off, os.length ≤ 100000) (h8 : N ≤ 8) (hn : L.length ≤ 100000) :
    Calls Try.prog 19 #[.slice (some ⟨g, 0, none⟩) N N, vo] w fun e w' => e = .returned (.bool true) ∧ Below w.heap.size w w' := by
  obtain ⟨oa, oc, eo⟩ := own_shape hg.row
  subst eo
  have HO := Lib.hid ho
  have HG := Lib.hid hg
  have HF := Lib.hid hF
  obtain ⟨C, hC, hmk⟩ := make_ints N (by omega)
  have hgw := (ho.lt (.inl rfl)).2
  have hov := Lib.hid hov
  clear ho hg hF
  go_enter Try.func19, Try.ntmps19
  go_wp2_with fail
  have hA : Below w.heap.size w (w.alloc (.cells C 3)) := (Below.refl _ _).alloc (Nat.le_refl _) _
  have gN := alloc_block_new w (.cells C 3)
  have HN : Hid (NextR (w.alloc (.cells C 3)) w.heap.size N L 0) := Lib.hid ⟨C, gN, by rw [← Array.length_toList, hC]; simp, fun c hc => by
    rw [← Array.getElem?_toList, hC, List.getElem?_replicate, if_pos hc]
    rfl⟩
  have HA := Lib.hid hA
  clear hA gN hmk hC
  generalize hbw : w.heap.size = bw at *
  generalize w.alloc (.cells C 3) = w1 at *
  go_loopw [6] (TRel w bw N L) (fun i _ => L.length - (intOf i).toNat)
  case atStart => exact ⟨0, rfl, Nat.zero_le _, HN.out, by rw [hbw]; exact HA.out⟩
  case round =>
    clear HN HA
    obtain ⟨i, rfl, hi, hN2, hB⟩ := hrel
    by_cases hil : i < L.length
    · obtain ⟨o, hoi⟩ : ∃ o, L[i]? = some o := ⟨_, List.getElem?_eq_getElem hil⟩
      obtain ⟨hoc, hoa, hos⟩ := HF.out.cl o (List.mem_of_getElem? hoi)
      have hoN : o.cls < N := by rw [← hN, HF.out.lo]; exact hoc
      obtain ⟨M, hM⟩ : ∃ M, S.ls[o.cls]? = some M := ⟨_, List.getElem?_eq_getElem (by rw [HF.out.ll]; exact hoc)⟩
      obtain ⟨os, hof⟩ : ∃ os, off[o.cls]? = some os := ⟨_, List.getElem?_eq_getElem (by rw [hN]; exact hoN)⟩
      have hor := HF.out.ord o.cls M os hM hof
      obtain ⟨hna, hnb⟩ := nosC_at hoi (M.Q.L.map It.no)
      rw [← hor] at hna hnb
      obtain ⟨y, hy, hrow, hyc⟩ := HO.out.at hof
      obtain ⟨gy, cy, rfl, hgy, hgyl⟩ := own_slice hrow (by omega)
      have hycell := hrow.cells (g := gy) rfl _ _ (nCells_get hnb)
      rw [Addr.add_lit, Nat.zero_add] at hycell
      obtain ⟨g1, cap, eg, hgl, hcell⟩ := HG.out.at (by omega)
      injection eg with eg1 eg2 eg3
      subst eg1 eg3
      clear eg2
      obtain ⟨e0, e1, yy, hyy⟩ := HG.out.cs i o hoi
      have e2 := hyy.c0
      have z0 := (hB.cell (p := ⟨g1, _, none⟩) hgl).trans (hcell _ _ e0)
      have z1 := (hB.cell (p := ⟨g1, _, none⟩) hgl).trans (hcell _ _ e1)
      have z2 := (hB.cell (p := ⟨g1, _, none⟩) hgl).trans (hcell _ _ e2)
      have zy := (hB.cell (p := ⟨g, _, none⟩) (by rw [hbw]; exact hgw)).trans hyc
      have zn := (hB.cell (p := ⟨gy, _, none⟩) hgyl).trans hycell
      have zx := hN2.at hoN
      have zf := hN2.fr o.cls
      obtain ⟨m, hm⟩ : ∃ m, (nosC o.cls (L.take i)).length = m := ⟨_, rfl⟩
      rw [hm] at zx zn hna
      have hii : (i : Int) < (L.length : Int) := by omega
      have hoNi : (o.cls : Int) < (N : Int) := by omega
      have hmi : (m : Int) < (os.length : Int) := by omega
      have hosl := hov.out os (List.mem_of_getElem? hof)
      have hni : ¬ (os.length : Int) ≤ (m : Int) := by omega
      have hnd : decide (os.length ≤ m) = false := decide_eq_false (by omega)
      have HNX := Lib.hid hN2
      have HB := Lib.hid hB
      have HM : Hid (∀ w', Below wr.heap.size wr w' → TRel w bw N L (.int .i64 (i + 1 : Nat)) (w'.setCell ⟨bw, o.cls, none⟩ (.int .i64 (m + 1 : Nat)))) := Lib.hid fun w' hB' => ⟨i + 1, rfl, hil, (hN2.below hB').put hoi (by rw [hm]), (hB.trans (hB'.mono hB.size)).setCell (p := ⟨bw, _, none⟩) (by rw [hbw]; exact Nat.le_refl _) _⟩
      have HC := Lib.hid hcell
      clear hB hN2 e0 e1 e2 hyy hrow hy hyc hcell hor hnb hof hM
      by_cases h0 : i = 0
      · have hi0 : ¬ (0 : Int) < (i : Int) := by omega
        have hi0' : ¬ 0 < i := by omega
        have hi0d : decide (0 < i) = false := decide_eq_false hi0'
        clear h0
        go_wp2_with fail
        go_quiet (fail)
        all_goals
          go_wp2_with fail
          go_roundw
          case rel => exact HM.out _ (below_drewN (Below.refl _ _) _)
          case measure => simp [intOf]; omega
      · obtain ⟨o2, hoj⟩ : ∃ o2, L[i - 1]? = some o2 := ⟨_, List.getElem?_eq_getElem (by omega)⟩
        obtain ⟨f0, -, -⟩ := HG.out.cs (i - 1) o2 hoj
        have y0 := (HB.out.cell (p := ⟨g1, _, none⟩) hgl).trans (HC.out _ _ f0)
        have y1 := y0
        rw [show i - 1 = ((i : Int) - 1).toNat by omega] at y1
        have hle : o2.at' ≤ o.at' := by
          obtain ⟨h1l, h1e⟩ := List.getElem?_eq_some_iff.1 hoi
          obtain ⟨h2l, h2e⟩ := List.getElem?_eq_some_iff.1 hoj
          have := List.pairwise_iff_getElem.1 HF.out.up (i - 1) i h2l h1l (by omega)
          rw [h1e, h2e] at this
          exact this
        have hi0 : (0 : Int) < (i : Int) := by omega
        have hi0' : 0 < i := by omega
        have hi0d : decide (0 < i) = true := decide_eq_true hi0'
        have hi1 : (0 : Int) ≤ (i : Int) - 1 := by omega
        have hi2 : (i : Int) - 1 < (L.length : Int) := by omega
        have hwi : IntKind.i64.wrap ((i : Int) - 1) = (i : Int) - 1 := IntWalk.i64_in _ (by omega)
        have hlt : ¬ (o.at' : Int) < (o2.at' : Int) := by omega
        clear f0 hle h0
        go_wp2_with fail
        go_quiet (fail)
        all_goals
          go_wp2_with fail
          go_roundw
          case rel => exact HM.out _ (below_drewN (Below.refl _ _) _)
          case measure => simp [intOf]; omega
    · have hii : ¬ (i : Int) < (L.length : Int) := by omega
      have HB := Lib.hid hB
      clear hB hN2
      go_wp2_with fail
      go_ret
      exact ⟨rfl, by rw [hbw] at HB; exact HB.out⟩
end Go.Proofs.Ythipfcmjpgbemaa

/- ShaperBounds: its state between calls. -/
namespace Go.Proofs.Ythipfcmjpgbemaa
open Go.RowKit

theorem offR_new {w : World} {n : Nat} {C : Array Value} (hC : C.toList = List.replicate n (Value.slice none 0 0)) : OffR (w.alloc (.cells C 51)) w.heap.size w.heap.size (List.replicate n (.slice none 0 0)) (List.replicate n []) := by
  refine ⟨Nat.le_refl _, ⟨C, alloc_block_new w _, hC⟩, by simp, fun c os hc => ?_, fun c d y z _ hy hz k hk => ?_⟩
  · rw [List.getElem?_replicate] at hc
    split at hc
    · rename_i h
      injection hc with hc
      subst hc
      exact ⟨.slice none 0 0, by rw [List.getElem?_replicate, if_pos h], World.ownsRow_nil _ _ _ _⟩
    · cases hc
  · rw [List.getElem?_replicate] at hy
    split at hy
    · injection hy with hy
      subst hy
      simp [Value.ownBlock] at hk
    · cases hy

/-- One number behind one row. -/
theorem OffR.push {w w2 : World} {base g c no : Nat} {ys : List Value} {off : List (List Nat)} {os : List Nat} {y v' : Value} (h : OffR w base g ys off) (hc : off[c]? = some os) (hy : ys[c]? = some y) (hb : base ≤ w.heap.size)
    (hrow : w2.ownsRow 0 30 1 v' (os.length + 1) (nCells os ++ [.int .u64 (no : Int)])) (hG : w.grownBy w2 y.ownBlock) (hv : v'.ownBlock = y.ownBlock ∨ v'.ownBlock = some w.heap.size) :
    OffR (w2.setCell ⟨g, c, none⟩ v') base g (ys.set c v') (off.set c (os ++ [no])) ∧ Only (OffD g ys) w (w2.setCell ⟨g, c, none⟩ v') ∧ (∀ j, OffD g (ys.set c v') j → OffD g ys j ∨ w.heap.size ≤ j) := by
  have hO : Only (fun k => y.ownBlock = some k) w w2 := (Only.refl _ _).grown hG (fun k hk _ => hk)
  have hcl := (List.getElem?_eq_some_iff.1 hc).1
  have hyl := (List.getElem?_eq_some_iff.1 hy).1
  obtain ⟨cs, hblk, hcs⟩ := h.blk
  have hgl := lt_of_obj hblk
  have hne := h.ne hy
  have hblk2 := hO.keep hblk hne
  have hv2 : ∀ k, v'.ownBlock = some k → y.ownBlock = some k ∨ w.heap.size = k := fun k hk => by
    rcases hv with e | e
    · rw [e] at hk; exact .inl hk
    · rw [e] at hk; injection hk with hk; exact .inr hk
  have hvg : ¬ v'.ownBlock = some g := fun e => by
    rcases hv2 g e with e | e
    · exact hne e
    · omega
  have hO3 : Only (OffD g ys) w (w2.setCell ⟨g, c, none⟩ v') := (hO.mono fun k _ hk => .inr ⟨c, y, hy, hk⟩).setCell (fun _ => .inl rfl) _
  have hOg : Only (· = g) w2 (w2.setCell ⟨g, c, none⟩ v') := Only.setCell (S := (· = g)) (p := ⟨g, c, none⟩) (Only.refl _ _) (fun _ => rfl) _
  refine ⟨⟨h.ge, ⟨_, setCell_block hblk2 _ _, by rw [Array.toList_setIfInBounds, hcs]⟩, by rw [List.length_set, List.length_set]; exact h.len, fun d os2 hd => ?_, fun d e z z' hde hz hz' k hk => ?_⟩, hO3, fun j hj => ?_⟩
  · by_cases hdc : d = c
    · subst hdc
      rw [List.getElem?_set_self hcl] at hd
      injection hd with hd
      subst hd
      refine ⟨v', List.getElem?_set_self hyl, ?_⟩
      rw [← nCells_snoc, List.length_append]
      exact own_only (own_raise hrow fun k hk => by
        rcases hv2 k hk with e | e
        · obtain ⟨os', hos', hr⟩ := h.has hy
          exact own_ge hr k e
        · omega) hOg (fun k hk e => hvg (e ▸ hk))
    · rw [List.getElem?_set_ne (by omega)] at hd
      obtain ⟨z, hz, hr⟩ := h.rows d os2 hd
      refine ⟨z, by rw [List.getElem?_set_ne (by omega)]; exact hz, ?_⟩
      exact own_only (own_only hr hO (fun k hk e => h.dj d c z y hdc hz hy k hk e)) hOg (fun k hk e => h.ne hz (e ▸ hk))
  · by_cases hdc : d = c
    · subst hdc
      rw [List.getElem?_set_self hyl] at hz
      injection hz with hz
      subst hz
      rw [List.getElem?_set_ne (by omega)] at hz'
      rcases hv2 k hk with e1 | e1
      · exact h.dj d e y z' hde hy hz' k e1
      · intro e2
        obtain ⟨os', -, hr⟩ := h.has hz'
        have := own_lt hr k e2
        omega
    · rw [List.getElem?_set_ne (by omega)] at hz
      by_cases hec : e = c
      · subst hec
        rw [List.getElem?_set_self hyl] at hz'
        injection hz' with hz'
        subst hz'
        intro e2
        rcases hv2 k e2 with e1 | e1
        · exact h.dj d e z y hde hz hy k hk e1
        · obtain ⟨os', -, hr⟩ := h.has hz
          have := own_lt hr k hk
          omega
      · rw [List.getElem?_set_ne (by omega)] at hz'
        exact h.dj d e z z' hde hz hz' k hk
  · rcases hj with rfl | ⟨d, z, hz, hk⟩
    · exact .inl (.inl rfl)
    · by_cases hdc : d = c
      · subst hdc
        rw [List.getElem?_set_self hyl] at hz
        injection hz with hz
        subst hz
        rcases hv2 j hk with e | e
        · exact .inl (.inr ⟨d, y, hy, e⟩)
        · exact .inr (by omega)
      · rw [List.getElem?_set_ne (by omega)] at hz
        exact .inl (.inr ⟨d, z, hz, hk⟩)

/-- The call's own memory: the shaper, the rows of what was offered, the row of what went out. -/
structure MSt (W w : World) (p : Nat) (O : Nat → Nat) (v : Value) (ps : List Nat) (S : Sh) (g : Nat) (ys : List Value) (off : List (List Nat)) (F : Nat → Prop) (ov : Value) (xs : List Value) (L : List OutR) : Prop where
  m : MineS W w p O v ps S
  o : OffR w W.heap.size g ys off
  r : GotR w F ov xs L
  fo : ∀ j, F j ∨ ov.ownBlock = some j → O j = 0 ∧ W.heap.size ≤ j
  oo : ∀ j, OffD g ys j → O j = 0
/-- What holds of the numbers. -/
structure NSt (l : List Cl) (S : Sh) (off : List (List Nat)) (L : List OutR) (k : Nat) : Prop where
  ok : S.Ok k
  fair : Fair l S off L
  tot : total S.ls + L.length ≤ k
  tick : S.tick < 4294967296
  ov : ∀ os ∈ off, os.length ≤ k

section
variable {W w w' : World} {p : Nat} {O O' : Nat → Nat} {v : Value} {ps : List Nat} {S S' : Sh} {g : Nat} {ys : List Value} {off : List (List Nat)} {F : Nat → Prop} {ov : Value} {xs : List Value} {L : List OutR}
theorem MSt.flt (h : MSt W w p O v ps S g ys off F ov xs L) {j : Nat} (hj : F j ∨ ov.ownBlock = some j) : j < w.heap.size := by
  rcases hj with hj | hj
  · exact h.r.flt hj
  · exact h.r.vlt hj
theorem MSt.keepS (h : MSt W w p O v ps S g ys off F ov xs L) (hI : IsS w' p O' v ps S') (hG : Grow O O' w w') : MSt W w' p O' v ps S' g ys off F ov xs L := by
  have hz : ∀ j, j < w.heap.size → O j = 0 → O' j = 0 := fun j hj h0 => by
    rcases Nat.eq_zero_or_pos (O' j) with e | e
    · exact e
    · rcases hG.new j (by omega) with e2 | e2 <;> omega
  exact ⟨h.m.step hI hG, h.o.keep hG.only (fun k hk e => e (h.oo k hk)), h.r.keep hG.only (fun k hk e => e (h.fo k (.inl hk)).1) (fun k hk e => e (h.fo k (.inr hk)).1),
    fun j hj => ⟨hz j (h.flt hj) (h.fo j hj).1, (h.fo j hj).2⟩, fun j hj => hz j (h.o.lt hj).2 (h.oo j hj)⟩
theorem MSt.below (h : MSt W w p O v ps S g ys off F ov xs L) (hB : Below w.heap.size w w') : MSt W w' p O v ps S g ys off F ov xs L := h.keepS (h.m.is.below hB) (Grow.below hB)
theorem ty_ne {k : Nat} {a b : Array Value} {s t : TypeId} {f f' : Nat × Nat} (ha : w.heap[k]? = some (.cells a s f)) (hb : w.heap[k]? = some (.cells b t f')) (hne : s ≠ t) : False := by
  rw [ha] at hb
  injection hb with hb
  injection hb with _ e _
  exact hne e
theorem MSt.apart (h : MSt W w p O v ps S g ys off F ov xs L) {k : Nat} (hk : OffD g ys k) : ¬ (F k ∨ ov.ownBlock = some k) := by
  obtain ⟨c, hc⟩ := h.o.ty hk
  rintro (hf | hf)
  · obtain ⟨c', hc'⟩ := h.r.ft k hf
    rcases hc with hc | hc <;> exact ty_ne hc hc' (by decide)
  · obtain ⟨c', hc'⟩ := row_type h.r.row k hf
    rcases hc with hc | hc <;> exact ty_ne hc hc' (by decide)
/-- One number behind one row of those that were offered. -/
theorem MSt.push {w2 : World} {c no : Nat} {os : List Nat} {y v' : Value} (h : MSt W w p O v ps S g ys off F ov xs L) (hc : off[c]? = some os) (hy : ys[c]? = some y)
    (hrow : w2.ownsRow 0 30 1 v' (os.length + 1) (nCells os ++ [.int .u64 (no : Int)])) (hG : w.grownBy w2 y.ownBlock) (hv : v'.ownBlock = y.ownBlock ∨ v'.ownBlock = some w.heap.size) :
    MSt W (w2.setCell ⟨g, c, none⟩ v') p O v ps S g (ys.set c v') (off.set c (os ++ [no])) F ov xs L := by
  obtain ⟨h1, h2, h3⟩ := h.o.push hc hy h.m.bel.size hrow hG hv
  refine ⟨⟨h.m.is.keep h2 (fun k hk e => hk (h.oo k e)), h.m.ge, h.m.bel.trans (h2.below h.m.bel.size (fun k hk e => by have := (h.o.lt e).1; omega))⟩, h1, h.r.keep h2 (fun k hk e => h.apart e (.inl hk)) (fun k hk e => h.apart e (.inr hk)), h.fo, fun j hj => ?_⟩
  rcases h3 j hj with e | e
  · exact h.oo j e
  · exact h.m.is.zero e
/-- What a Release lets out is appended. -/
theorem MSt.out {wB : World} {F2 : Nat → Prop} {vo v3 : Value} {ys2 : List Value} {M : List OutR} (h : MSt W w p O v ps S g ys off F ov xs L) (hR : ROut w wB p O O' v ps S' F2 vo ys2 M)
    (hG : GotR w' (fun k => F k ∨ F2 k) v3 (xs ++ ys2) (L ++ M)) (hO : Only (fun k => ov.ownBlock = some k) wB w') (hv : v3.ownBlock = ov.ownBlock ∨ v3.ownBlock = some wB.heap.size) :
    MSt W w' p O' v ps S' g ys off (fun k => F k ∨ F2 k) v3 (xs ++ ys2) (L ++ M) := by
  have hB := h.keepS hR.is hR.grow
  have hs := hB.m.bel.size
  have hsw := h.m.bel.size
  refine ⟨⟨hB.m.is.keep hO (fun k hk e => hk (hB.fo k (.inr e)).1), hB.m.ge, hB.m.bel.trans (hO.below hs (fun k hk e => by have := (hB.fo k (.inr e)).2; omega))⟩, hB.o.keep hO (fun k hk e => hB.apart hk (.inr e)), hG, fun j hj => ?_, hB.oo⟩
  rcases hj with (hj | hj) | hj
  · exact hB.fo j (.inl hj)
  · exact ⟨hR.df j hj, Nat.le_trans hsw (hR.new.ge j hj)⟩
  · rcases hv with e | e
    · rw [e] at hj
      exact hB.fo j (.inr hj)
    · rw [e] at hj
      injection hj with hj
      subst hj
      exact ⟨hB.m.is.zero (Nat.le_refl _), hs⟩
end

theorem NSt.mono {l : List Cl} {S : Sh} {off : List (List Nat)} {L : List OutR} {k m : Nat} (h : NSt l S off L k) (hk : k ≤ m) (hm : m ≤ 1000000) : NSt l S off L m :=
  ⟨h.ok.mono hk hm, h.fair, Nat.le_trans h.tot hk, h.tick, fun os ho => Nat.le_trans (h.ov os ho) hk⟩
theorem NSt.rel {l : List Cl} {S : Sh} {off : List (List Nat)} {L : List OutR} {k t : Nat} (h : NSt l S off L k) (ht : t < 4294967296) :
    NSt l (S.rel t).1 off (L ++ (S.rel t).2) k ∧ ((S.rel t).1.next.ok = true → (S.rel t).1.tick < (S.rel t).1.next.at') := by
  obtain ⟨h1, h2, h3⟩ := h.fair.rel h.ok (show t < 18446744073709551616 by omega)
  have h4 := rel_total S t
  have h5 := h.tot
  have h6 := h.tick
  exact ⟨⟨h.ok.rel (by omega), h1, by rw [List.length_append]; omega, by rw [h2]; omega, h.ov⟩, h3⟩
theorem NSt.offer {l : List Cl} {S : Sh} {off : List (List Nat)} {L : List OutR} {k c no : Nat} {sz : Int} {M : Ln} {os : List Nat} (h : NSt l S off L k) (hM : S.ls[c]? = some M) (hos : off[c]? = some os) (h0 : 0 ≤ sz) (h1 : sz ≤ 2048) (hk : k + 1 ≤ 1000000) :
    NSt l ⟨S.tick, S.ls.set c (offL M no sz [])⟩ (if roomB M.Q sz = true then off.set c (os ++ [no]) else off) L (k + 1) := by
  refine ⟨h.ok.offer hM no [] h0 h1 hk, h.fair.offer hM hos h0, ?_, h.tick, fun o ho => ?_⟩
  · have h2 := total_off (no := no) hM h0
    have h3 := h.tot
    show total (S.ls.set c _) + _ ≤ _
    omega
  · split at ho
    · rcases List.mem_or_eq_of_mem_set ho with h2 | rfl
      · exact Nat.le_trans (h.ov o h2) (Nat.le_succ _)
      · rw [List.length_append]
        have := h.ov os (List.mem_of_getElem? hos)
        simp
        omega
    · exact Nat.le_trans (h.ov o ho) (Nat.le_succ _)
end Go.Proofs.Ythipfcmjpgbemaa
