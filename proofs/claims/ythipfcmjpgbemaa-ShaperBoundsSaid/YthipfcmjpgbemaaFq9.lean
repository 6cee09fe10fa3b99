/- Head and Pop, walked. -/
import Derived.Test.YthipfcmjpgbemaaFq8
namespace Go.Proofs.Ythipfcmjpgbemaa
open Go.RowKit

theorem head_nil (w : World) :
    Calls Try.prog 52 #[.pointer none] w fun e w' => e = .returned (.tuple #[.agg #[.int .u64 0, .int .i64 0, .slice none 0 0], .bool false]) ∧ Below w.heap.size w w' := by
  go_enter Try.func52, Try.ntmps52
  go_wp2_with fail
  refine (len_nil _).mono ?_
  rintro e w' ⟨rfl, rfl⟩
  go_wp2_with fail
  exact bodyPost_ret (v := .tuple #[.agg #[.int .u64 0, .int .i64 0, .slice none 0 0], .bool false]) (by simp [results, Try.results52, go_sem]) rfl ⟨rfl, (Below.refl _ _).alloc (Nat.le_refl _) _⟩

theorem head_empty {w : World} {p : Nat} {r : Nat → Nat} {Q : QS} {rv : Value} {f n : Nat} {xs : List Value} (hQ : IsQ w p r Q rv f n xs) (h0 : Q.L = []) :
    Calls Try.prog 52 #[.pointer (some ⟨p, 0, none⟩)] w fun e w' => e = .returned (.tuple #[.agg #[.int .u64 0, .int .i64 0, .slice none 0 0], .bool false]) ∧ Below w.heap.size w w' := by
  have hA : Below w.heap.size w (w.alloc (.cells #[.int .u64 0, .int .i64 0, .slice none 0 0] 34)) := (Below.refl _ _).alloc (Nat.le_refl _) _
  have hl := len_is (hQ.below hA)
  rw [h0] at hl
  have HL := Lib.hid hl
  clear hl hQ h0 hA
  go_enter Try.func52, Try.ntmps52
  go_wp2_with fail
  refine HL.out.mono ?_
  rintro e w' ⟨rfl, rfl⟩
  go_wp2_with fail
  exact bodyPost_ret (v := .tuple #[.agg #[.int .u64 0, .int .i64 0, .slice none 0 0], .bool false]) (by simp [results, Try.results52, go_sem]) rfl ⟨rfl, (Below.refl _ _).alloc (Nat.le_refl _) _⟩

theorem place0 {w : World} {p : Nat} {g c f n : Nat} (c0 : w.cell? ⟨p, 0, none⟩ = some (.slice (some ⟨g, 0, none⟩) n c)) (c1 : w.cell? ⟨p, 1, none⟩ = some (.int .i64 f)) (hf : f < n) (hn : n ≤ 200000) :
    Calls Try.prog 49 #[.pointer (some ⟨p, 0, none⟩), .int .i64 0] w fun e w' => e = .returned (.pointer (some ⟨g, f * 3, none⟩)) ∧ ∃ n, w' = w.drewN n := by
  have h := place_is 0 c0 c1 hf hn (by omega)
  rw [Nat.add_zero, Nat.mod_eq_of_lt hf] at h
  exact h

/-- Behind Head, where there is one. -/
def HeadOk (w : World) (x : It) (e : Ending) (w' : World) : Prop := ∃ v, e = .returned (.tuple #[.agg #[.int .u64 x.no, .int .i64 x.size, v], .bool true]) ∧ Own8 w' w.heap.size v x.data ∧ Below w.heap.size w w'

set_option maxRecDepth 100000 in
theorem head_is {w : World} {p : Nat} {r : Nat → Nat} {Q : QS} {rv : Value} {f n : Nat} {xs : List Value} (hQ : IsQ w p r Q rv f n xs) (x : It) (L : List It) (hL : Q.L = x :: L) :
    Calls Try.prog 52 #[.pointer (some ⟨p, 0, none⟩)] w (HeadOk w x) := by
  have hA : Below w.heap.size w (w.alloc (.cells #[.int .u64 0, .int .i64 0, .slice none 0 0] 34)) := (Below.refl _ _).alloc (Nat.le_refl _) _
  have hQ1 := hQ.below hA
  have h2 := alloc_block_new w (.cells #[.int .u64 0, .int .i64 0, .slice none 0 0] 34)
  have hx : Q.L[0]? = some x := by rw [hL]; rfl
  have hlen : Q.L.length = L.length + 1 := by rw [hL]; rfl
  have hd := hQ.data x (List.mem_of_getElem? hx)
  have hroom := hQ.room
  have hcap := hQ.cap
  have hff : f < n := by have := hQ.from_; omega
  obtain ⟨y, hy⟩ := hQ1.rc 0 x hx
  obtain ⟨g, cap, erv, hg, hnc, hcell⟩ := row_cell hQ1.ring (by omega)
  rw [Nat.add_zero, Nat.mod_eq_of_lt hff] at hy
  have x0 := (hcell (f * 3) (by omega)).trans hy.c0
  have x1 := (hcell (f * 3 + 1) (by omega)).trans hy.c1
  have x2 := (hcell (f * 3 + 2) (by omega)).trans hy.c2
  have hy8 := hy.d.holds
  obtain ⟨ya, yc, ey⟩ := own_shape hy.d
  rw [ey] at x2 hy8
  have c0 := hQ1.c0
  rw [erv] at c0
  have c1 := hQ1.c1
  have HL := Lib.hid (len_is hQ1)
  obtain ⟨g2, eg⟩ : ∃ t, w.heap.size = t := ⟨_, rfl⟩
  rw [eg] at h2
  have hpos : (0 : Int) < (Q.L.length : Int) := by omega
  have HA := Lib.hid hA
  have H2 := Lib.hid h2
  have HY := Lib.hid hy8
  have HE := Lib.hid eg
  go_enter Try.func52, Try.ntmps52
  go_wp2_with fail
  clear hA hQ1 h2 hx hlen hy hcell ey erv hg hnc hQ hL hroom
  refine HL.out.mono ?_
  rintro e w' ⟨rfl, rfl⟩
  clear eg
  generalize w.alloc (.cells #[.int .u64 0, .int .i64 0, .slice none 0 0] 34) = w1 at *
  go_wp2_with fail
  refine (place0 c0 c1 hff hcap).mono ?_
  rintro e w2 ⟨rfl, nd, rfl⟩
  go_wp2_with fail
  refine (copied_is x.no x.size _ x.data _ (HY.out.below (below_drewN (Below.refl _ _) nd)) hd).mono ?_
  rintro e w3 ⟨v, rfl, ho, hB3⟩
  obtain ⟨av, cv, ev⟩ := own_shape ho
  subst ev
  have hB3' : Below w1.heap.size w1 w3 := (below_drewN (Below.refl w1.heap.size w1) nd).trans hB3
  have h3 := (hB3'.block g2 (lt_of_obj H2.out)).trans H2.out
  have m0 : w3.cell? ⟨g2, 0, none⟩ = _ := cell_of_block h3 0
  have m1 : w3.cell? ⟨g2, 1, none⟩ = _ := cell_of_block h3 1
  have m2 : w3.cell? ⟨g2, 2, none⟩ = _ := cell_of_block h3 2
  have f0 := free_of_block h3 0
  have f1 := free_of_block h3 1
  have f2 := free_of_block h3 2
  dsimp at m0 m1 m2
  have HO := Lib.hid ho
  have HB3 := Lib.hid hB3'
  clear ho hB3 hB3' h3 c0 c1 x0 x1 x2 HL
  go_wp2_with fail
  have hO5 : Only (· = g2) w3 (((w3.setCell ⟨g2, 0, none⟩ (.int .u64 x.no)).setCell ⟨g2, 1, none⟩ (.int .i64 x.size)).setCell ⟨g2, 2, none⟩ (.slice av x.data.length cv)) :=
    Only.setCell (p := ⟨g2, 2, none⟩) (Only.setCell (p := ⟨g2, 1, none⟩) (Only.setCell (p := ⟨g2, 0, none⟩) (Only.refl (· = g2) w3) (fun _ => rfl) _) (fun _ => rfl) _) (fun _ => rfl) _
  have hgl := lt_of_obj H2.out
  have hown := own_only HO.out hO5 (fun k hk e => by have h1 := own_ge HO.out k hk; have h2 : (w1.drewN nd).heap.size = w1.heap.size := rfl; omega)
  have hE := HE.out
  have hBf := (HA.out.trans (HB3.out.mono HA.out.size)).trans (hO5.below (B := w.heap.size) (Nat.le_trans HA.out.size HB3.out.size) (fun k hk e => by omega))
  have r0 : (((w3.setCell ⟨g2, 0, none⟩ (.int .u64 x.no)).setCell ⟨g2, 1, none⟩ (.int .i64 x.size)).setCell ⟨g2, 2, none⟩ (.slice av x.data.length cv)).cell? ⟨g2, 0, none⟩ = some (.int .u64 x.no) := by simp [go_sem, m0, m1, m2]
  have r1 : (((w3.setCell ⟨g2, 0, none⟩ (.int .u64 x.no)).setCell ⟨g2, 1, none⟩ (.int .i64 x.size)).setCell ⟨g2, 2, none⟩ (.slice av x.data.length cv)).cell? ⟨g2, 1, none⟩ = some (.int .i64 x.size) := by simp [go_sem, m0, m1, m2]
  have r2 : (((w3.setCell ⟨g2, 0, none⟩ (.int .u64 x.no)).setCell ⟨g2, 1, none⟩ (.int .i64 x.size)).setCell ⟨g2, 2, none⟩ (.slice av x.data.length cv)).cell? ⟨g2, 2, none⟩ = some (.slice av x.data.length cv) := by simp [go_sem, m0, m1, m2]
  have hA1 := HA.out.size
  generalize ((w3.setCell ⟨g2, 0, none⟩ (.int .u64 x.no)).setCell ⟨g2, 1, none⟩ (.int .i64 x.size)).setCell ⟨g2, 2, none⟩ (.slice av x.data.length cv) = w5 at *
  exact bodyPost_ret (v := .tuple #[.agg #[.int .u64 x.no, .int .i64 x.size, .slice av x.data.length cv], .bool true]) (by simp [results, Try.results52, go_sem, r0, r1, r2]) rfl ⟨_, rfl, own_lower hown hA1, hBf⟩
end Go.Proofs.Ythipfcmjpgbemaa
