/- A head that goes out: walked. -/
import Derived.Test.YthipfcmjpgbemaaSd
namespace Go.Proofs.Ythipfcmjpgbemaa
open Go.RowKit

theorem Only.after {S T : Nat → Prop} {a b c : World} (h : Only S a b) (k : Only T b c) (hT : ∀ j, j < a.heap.size → ¬ S j → ¬ T j) : Only S a c :=
  ⟨k.os.trans h.os, k.tape.trans h.tape, k.output.trans h.output, Nat.le_trans h.size k.size, fun j hj hs => (k.block j (Nat.lt_of_lt_of_le hj h.size) (hT j hj hs)).trans (h.block j hj hs)⟩

/-- A line whose head x goes out at a tick. -/
def outL (L : Ln) (t : Nat) (x : It) (l : List It) : Ln := ⟨L.off, L.drp, L.out + 1, L.byt + x.size, L.B.take t x.size, popped L.Q l⟩
def OutOk (w : World) (lp bp qp : Nat) (r : Nat → Nat) (L' : Ln) (x : It) (e : Ending) (w' : World) : Prop :=
  ∃ y, e = .returned (.agg #[.int .u64 x.no, .int .i64 x.size, y]) ∧ Own8 w' w.heap.size y x.data ∧ w'.heap[lp]? = some (.cells (L'.cells bp qp) 88 (0, 0)) ∧ IsB w' bp L'.B ∧ Que w' qp r L'.Q ∧ Only (fun k => k = lp ∨ k = bp ∨ r k ≠ 0) w w'

set_option maxRecDepth 100000 in
theorem out_is {w : World} {O : Nat → Nat} {c lp bp qp t : Nat} {r : Nat → Nat} {L : Ln} {x : It} {l : List It} (hI : IsL w O c lp bp qp r L) (hq : L.Q.L = x :: l) (hB : L.B.Ok) (ht : t < 18446744073709551616) (hx : x.size ≤ 2048) (ho : L.out ≤ 1000000) (hy : L.byt ≤ 10000000000) :
    Calls Try.prog 32 #[ptr lp, .int .u64 t] w (OutOk w lp bp qp r (outL L t x l) x) := by
  unfold ptr
  have hA : Below w.heap.size w (w.alloc (.cells #[.int .u64 0, .int .i64 0, .slice none 0 0] 34)) := (Below.refl _ _).alloc (Nat.le_refl _) _
  have g := alloc_block_new w (.cells #[.int .u64 0, .int .i64 0, .slice none 0 0] 34)
  have hI1 := hI.keep (Below.only hA (fun _ => False)) (fun h => h) (fun h => h) (fun _ _ h => h)
  have hlp := lt_of_obj hI.blk
  have hbp := lt_of_obj hI.b
  have hqr := hI.q.lt
  go_enter Try.func32, Try.ntmps32
  go_upto_region 1 with (fail)
  generalize w.alloc (.cells #[.int .u64 0, .int .i64 0, .slice none 0 0] 34) = w1 at *
  have c5 : w1.cell? ⟨lp, 5, none⟩ = some (.pointer (some ⟨qp, 0, none⟩)) := cell_of_block hI1.blk 5
  have HG := Lib.hid (And.intro hA g)
  have HP := Lib.hid (pop_q x l hI1.q hq)
  clear hA g
  go_wp2_with fail
  refine HP.out.mono ?_
  rintro e w2 ⟨y, rfl, hQ2, hO2, hy2⟩
  obtain ⟨ya, yc, rfl⟩ := own_shape hy2
  go_wp2_with fail
  have hrl : ∀ k, O k ≠ 5 + 3 * c → ¬ r k ≠ 0 := fun k hk h => hk (hI.oq k h)
  have hlb := hO2.keep hI1.blk (hrl lp (by rw [hI.ol]; omega))
  have hbb := hO2.keep hI1.b (hrl bp (by rw [hI.ob]; omega))
  have hg2 := hO2.keep HG.out.2 (fun h => by have := hqr _ h; omega)
  have hA3 : Below w2.heap.size w2 (w2.alloc (.cells #[.int .u64 x.no, .int .i64 x.size, .slice ya x.data.length yc] 34)).drew := ((Below.refl _ _).alloc (Nat.le_refl _) _).drew
  have gx : (w2.alloc (.cells #[.int .u64 x.no, .int .i64 x.size, .slice ya x.data.length yc] 34)).drew.heap[w2.heap.size]? = _ := alloc_block_new w2 (.cells #[.int .u64 x.no, .int .i64 x.size, .slice ya x.data.length yc] 34)
  refine region_tail 8 (by kernel_rfl) (by kernel_rfl) ?_
  simp only [List.take_succ_cons, List.take_zero, List.drop_succ_cons, List.drop_zero]
  generalize (w2.alloc (.cells #[.int .u64 x.no, .int .i64 x.size, .slice ya x.data.length yc] 34)).drew = w3 at *
  have hlb3 := (hA3.block _ (lt_of_obj hlb)).trans hlb
  have hbb3 := (hA3.block _ (lt_of_obj hbb)).trans hbb
  have hg3 := (hA3.block _ (lt_of_obj hg2)).trans hg2
  have hQ3 := hQ2.below hA3
  have hy3 := own_below hy2 hA3
  have hO3 : Only (fun k => k = lp ∨ k = bp ∨ r k ≠ 0) w w3 := ((Below.only HG.out.1 _).trans (hO2.mono fun k _ h => .inr (.inr h))).trans (Below.only hA3 _)
  have hbx : w.heap.size < w2.heap.size := Nat.lt_of_lt_of_le (lt_of_obj HG.out.2) hO2.size
  generalize w2.heap.size = bx at *
  obtain ⟨bw, hbw⟩ : ∃ bw, w.heap.size = bw := ⟨_, rfl⟩
  have hw64 : IntKind.u64.wrap (x.size : Int) = x.size := IntWalk.u64_in _ (by omega)
  have c4 : w3.cell? ⟨lp, 4, none⟩ = some (.pointer (some ⟨bp, 0, none⟩)) := cell_of_block hlb3 4
  have x1 : w3.cell? ⟨bx, 1, none⟩ = some (.int .i64 x.size) := cell_of_block gx 1
  have HT := Lib.hid (take_is bp t x.size w3 hbb3 hB ht rfl rfl)
  repeat still_step
  refine wpStill_nil ?_
  have HX := Lib.hid (And.intro hlb3 (And.intro hg3 (And.intro gx (And.intro hQ3 (And.intro hy3 hO3)))))
  clear hlb3 hg3 gx hQ3 hy3 hO3 hA3 hlb hbb hg2 hbb3
  go_wp2_with fail
  refine HT.out.mono ?_
  rintro e w4 ⟨rfl, hb4, hO4⟩
  obtain ⟨hlb3, hg3, gx, hQ3, hy3, hO3⟩ := HX.out
  clear HT c4 x1 HX HP
  have hlbne : ¬ lp = bp := fun e => by have h1 := hI.ol; have h2 := hI.ob; rw [e] at h1; omega
  have hbpr : ¬ r bp ≠ 0 := fun h => by have h1 := hI.oq bp h; have h2 := hI.ob; omega
  have hlb4 := hO4.keep hlb3 hlbne
  have hg4 := hO4.keep hg3 (by omega)
  have gx4 := hO4.keep gx (by omega)
  have hQ4 := hQ3.keep hO4 (fun k hk e => hbpr (e ▸ hk))
  have hy4 := own_only hy3 hO4 (fun k hk e => by have := own_ge hy3 k hk; have := HG.out.1.size; omega)
  have hO4' := hO3.trans (hO4.mono fun k _ h => .inr (.inl h))
  clear hlb3 hg3 gx hQ3 hy3 hO3 hO4
  have a2 : w4.cell? ⟨lp, 2, none⟩ = some (.int .u64 L.out) := cell_of_block hlb4 2
  have HA2 := Lib.hid (add_cnt (y := 1) a2 (free_of_block hlb4 2) (by omega))
  clear a2
  go_wp2_with fail
  refine HA2.out.mono ?_
  rintro e w5 ⟨rfl, hw5⟩
  clear HA2
  have hlpr : ¬ r lp ≠ 0 := fun h => by have h1 := hI.oq lp h; have h2 := hI.ol; omega
  have hO5 : Only (· = lp) w4 w5 := by rw [hw5]; exact Only.setCell (S := (· = lp)) (p := ⟨lp, 2, none⟩) (Only.refl _ _) (fun _ => rfl) _
  have hlb5 : w5.heap[lp]? = some (.cells #[.int .u64 L.off, .int .u64 L.drp, .int .u64 ((L.out + 1 : Nat) : Int), .int .u64 L.byt, ptr bp, ptr qp] 88 (0, 0)) := by rw [hw5]; exact setCell_block hlb4 2 _
  have hb5 := hO5.keep hb4 (fun e => hlbne e.symm)
  have hg5 := hO5.keep hg4 (by omega)
  have gx5 := hO5.keep gx4 (by omega)
  have hQ5 := hQ4.keep hO5 (fun k hk e => hlpr (e ▸ hk))
  have hy5 := own_only hy4 hO5 (fun k hk e => by have := own_ge hy4 k hk; have := HG.out.1.size; omega)
  have hO5' := hO4'.trans (hO5.mono fun k _ h => .inl h)
  clear hlb4 hg4 gx4 hQ4 hy4 hO5 hw5 hb4 hO4'
  have hlb5 : w5.drew.heap[lp]? = _ := hlb5
  have hb5 : w5.drew.heap[bp]? = _ := hb5
  have hg5 : w5.drew.heap[w.heap.size]? = _ := hg5
  have gx5 : w5.drew.heap[bx]? = _ := gx5
  have hQ5 := hQ5.below ((Below.refl w5.heap.size w5).drew)
  have hy5 := own_below hy5 ((Below.refl w5.heap.size w5).drew)
  have hO5' := hO5'.drew
  go_wp2_with fail
  refine region_tail 7 (by kernel_rfl) (by kernel_rfl) ?_
  simp only [List.take_succ_cons, List.take_zero, List.drop_succ_cons, List.drop_zero]
  generalize w5.drew = w5 at *
  have x1 : w5.cell? ⟨bx, 1, none⟩ = some (.int .i64 x.size) := cell_of_block gx5 1
  have a3 : w5.cell? ⟨lp, 3, none⟩ = some (.int .u64 L.byt) := cell_of_block hlb5 3
  have HA3 := Lib.hid (add_cnt (y := x.size) a3 (free_of_block hlb5 3) (by omega))
  clear a3
  have HX := Lib.hid (And.intro hlb5 (And.intro hg5 (And.intro gx5 (And.intro hQ5 (And.intro hy5 (And.intro hO5' hb5))))))
  clear hlb5 hg5 gx5 hQ5 hy5 hO5' hb5
  repeat still_step
  refine wpStill_nil ?_
  go_wp2_with fail
  refine HA3.out.mono ?_
  rintro e w6 ⟨rfl, hw6⟩
  clear HA3 x1
  obtain ⟨hlb5, hg5, gx5, hQ5, hy5, hO5', hb5⟩ := HX.out
  have hO6 : Only (· = lp) w5 w6 := by rw [hw6]; exact Only.setCell (S := (· = lp)) (p := ⟨lp, 3, none⟩) (Only.refl _ _) (fun _ => rfl) _
  have hlb6 : w6.heap[lp]? = some (.cells ((outL L t x l).cells bp qp) 88 (0, 0)) := by rw [hw6]; exact setCell_block hlb5 3 _
  have hb6 := hO6.keep hb5 (fun e => hlbne e.symm)
  have hg6 := hO6.keep hg5 (by omega)
  have gx6 := hO6.keep gx5 (by omega)
  have hQ6 := hQ5.keep hO6 (fun k hk e => hlpr (e ▸ hk))
  have hy6 := own_only hy5 hO6 (fun k hk e => by have := own_ge hy5 k hk; have := HG.out.1.size; omega)
  have hO6' := hO5'.trans (hO6.mono fun k _ h => .inl h)
  clear hlb5 hg5 gx5 hQ5 hy5 hO6 hw6 hb5 hO5' HX
  have x0 : w6.cell? ⟨bx, 0, none⟩ = some (.int .u64 x.no) := cell_of_block gx6 0
  have x1 : w6.cell? ⟨bx, 1, none⟩ = some (.int .i64 x.size) := cell_of_block gx6 1
  have x2 : w6.cell? ⟨bx, 2, none⟩ = some (.slice ya x.data.length yc) := cell_of_block gx6 2
  rw [hbw] at hg6
  have g0 : w6.cell? ⟨bw, 0, none⟩ = some (.int .u64 0) := cell_of_block hg6 0
  have g1 : w6.cell? ⟨bw, 1, none⟩ = some (.int .i64 0) := cell_of_block hg6 1
  have g2 : w6.cell? ⟨bw, 2, none⟩ = some (.slice none 0 0) := cell_of_block hg6 2
  have k0 : w6.frozen? ⟨bw, 0, none⟩ = false := free_of_block hg6 0
  have k1 : w6.frozen? ⟨bw, 1, none⟩ = false := free_of_block hg6 1
  have k2 : w6.frozen? ⟨bw, 2, none⟩ = false := free_of_block hg6 2
  have HX := Lib.hid (And.intro hlb6 (And.intro hg6 (And.intro hQ6 (And.intro hy6 (And.intro hO6' hb6)))))
  clear hlb6 hg6 gx6 hQ6 hy6 hO6' hb6
  go_wp2_with fail
  obtain ⟨hlb6, hg6, hQ6, hy6, hO6', hb6⟩ := HX.out
  have hO7 : Only (· = bw) w6 (((w6.setCell ⟨bw, 0, none⟩ (.int .u64 x.no)).setCell ⟨bw, 1, none⟩ (.int .i64 x.size)).setCell ⟨bw, 2, none⟩ (.slice ya x.data.length yc)) := (((Only.refl (· = bw) w6).setCell (p := ⟨bw, 0, none⟩) (fun _ => rfl) _).setCell (p := ⟨bw, 1, none⟩) (fun _ => rfl) _).setCell (p := ⟨bw, 2, none⟩) (fun _ => rfl) _
  have hg7 : (((w6.setCell ⟨bw, 0, none⟩ (.int .u64 x.no)).setCell ⟨bw, 1, none⟩ (.int .i64 x.size)).setCell ⟨bw, 2, none⟩ (.slice ya x.data.length yc)).heap[bw]? = some (.cells #[.int .u64 x.no, .int .i64 x.size, .slice ya x.data.length yc] 34 (0, 0)) := setCell_block (setCell_block (setCell_block hg6 0 _) 1 _) 2 _
  generalize ((w6.setCell ⟨bw, 0, none⟩ (.int .u64 x.no)).setCell ⟨bw, 1, none⟩ (.int .i64 x.size)).setCell ⟨bw, 2, none⟩ (.slice ya x.data.length yc) = w7 at *
  have q0 : w7.cell? ⟨bw, 0, none⟩ = some (.int .u64 x.no) := cell_of_block hg7 0
  have q1 : w7.cell? ⟨bw, 1, none⟩ = some (.int .i64 x.size) := cell_of_block hg7 1
  have q2 : w7.cell? ⟨bw, 2, none⟩ = some (.slice ya x.data.length yc) := cell_of_block hg7 2
  clear x0 x1 x2 g0 g1 g2 k0 k1 k2
  have hy7 := own_only hy6 hO7 (fun k hk e => by
    have h1 := own_ge hy6 k hk
    have h2 := lt_of_obj HG.out.2
    omega)
  refine bodyPost_ret (v := .agg #[.int .u64 x.no, .int .i64 x.size, .slice ya x.data.length yc]) (by simp [results, Try.results32, go_sem, q0, q1, q2]) rfl ⟨_, rfl, own_lower hy7 HG.out.1.size, hO7.keep hlb6 (by omega), hO7.keep hb6 (by omega), hQ6.keep hO7 (fun k hk e => by have := hqr k hk; omega), ?_⟩
  exact hO6'.after hO7 (fun k hk _ e => by omega)
end Go.Proofs.Ythipfcmjpgbemaa
