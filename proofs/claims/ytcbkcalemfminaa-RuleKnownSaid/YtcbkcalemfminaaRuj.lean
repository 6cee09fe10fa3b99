/- Rules that are handed in, opened. -/
import Derived.Test.YtcbkcalemfminaaRui
namespace Go.Proofs.Ytcbkcalemfminaa
open Go.ChangeShapes Go.WideShapes Go.Deep Go.RowKit
section
variable {H : Type} {enc : TypeId × Value → H} {w : World} {base : Nat} {spare : Nat → Bool} {held : Bool} {fuel : Nat} {cs : List Value} {x : DataW H × List MemPlace}

theorem open_po (h : DataW.trod enc Try.prog w base spare held fuel 41 cs = some x) : ∃ a b : Nat, cs = [.int .u16 a, .int .u16 b] ∧ a < 65536 ∧ b < 65536 := by
  obtain ⟨y0, y1, n, _, hl, h0, h1⟩ := trod_struct2 Try.underlying41 h
  dsimp only at h0 h1
  rw [cOf_u16] at h0 h1
  rw [cOf_po] at hl
  obtain ⟨a, e0, _, w0⟩ := DataW.trod_int Try.underlying26 h0
  obtain ⟨b, e1, _, w1⟩ := DataW.trod_int Try.underlying26 h1
  have b0 := bounds_u16 w0
  have b1 := bounds_u16 w1
  obtain ⟨a, rfl⟩ := Int.eq_ofNat_of_zero_le b0.1
  obtain ⟨b, rfl⟩ := Int.eq_ofNat_of_zero_le b1.1
  refine ⟨a, b, ?_, by omega, by omega⟩
  have := dsplit cs 0 1
  rw [List.drop_zero] at this
  rw [this, dsplit cs (0 + 1) 1, show cs.drop (0 + 1 + 1) = [] from List.drop_eq_nil_of_le (by omega)]
  rw [List.drop_zero] at e0
  simp only [Nat.zero_add] at e1 ⊢
  rw [e0, e1]
  rfl

theorem open_ru (h : DataW.trod enc Try.prog w base spare held fuel 43 cs = some x) : ∃ r : Ru, cs = r.cs ∧ r.Ok := by
  obtain ⟨xs, n, _, _, hl, hxl, hf⟩ := DataW.trod_struct Try.underlying43 h
  have g0 : DataW.trod enc Try.prog w base spare held n 3 ((cs.drop 0).take (Try.prog.cellsOf 3)) = some _ := (hf 0 _ rfl).trans (List.getElem?_eq_getElem (by rw [hxl]; decide))
  have g1 : DataW.trod enc Try.prog w base spare held n 3 ((cs.drop 1).take (Try.prog.cellsOf 3)) = some _ := (hf 1 _ rfl).trans (List.getElem?_eq_getElem (by rw [hxl]; decide))
  have g2 : DataW.trod enc Try.prog w base spare held n 39 ((cs.drop 2).take (Try.prog.cellsOf 39)) = some _ := (hf 2 _ rfl).trans (List.getElem?_eq_getElem (by rw [hxl]; decide))
  have g3 : DataW.trod enc Try.prog w base spare held n 39 ((cs.drop 20).take (Try.prog.cellsOf 39)) = some _ := (hf 3 _ rfl).trans (List.getElem?_eq_getElem (by rw [hxl]; decide))
  have g4 : DataW.trod enc Try.prog w base spare held n 41 ((cs.drop 38).take (Try.prog.cellsOf 41)) = some _ := (hf 4 _ rfl).trans (List.getElem?_eq_getElem (by rw [hxl]; decide))
  have g5 : DataW.trod enc Try.prog w base spare held n 41 ((cs.drop 40).take (Try.prog.cellsOf 41)) = some _ := (hf 5 _ rfl).trans (List.getElem?_eq_getElem (by rw [hxl]; decide))
  have g6 : DataW.trod enc Try.prog w base spare held n 4 ((cs.drop 42).take (Try.prog.cellsOf 4)) = some _ := (hf 6 _ rfl).trans (List.getElem?_eq_getElem (by rw [hxl]; decide))
  have g7 : DataW.trod enc Try.prog w base spare held n 3 ((cs.drop 43).take (Try.prog.cellsOf 3)) = some _ := (hf 7 _ rfl).trans (List.getElem?_eq_getElem (by rw [hxl]; decide))
  rw [cOf_int] at g0 g1 g7
  rw [cOf_pf] at g2 g3
  rw [cOf_po] at g4 g5
  rw [cOf_bool] at g6
  rw [cOf_ru] at hl
  obtain ⟨v, e0, _⟩ := DataW.trod_int Try.underlying3 g0
  obtain ⟨p, e1, _⟩ := DataW.trod_int Try.underlying3 g1
  obtain ⟨s, e2, hs⟩ := open_pf g2
  obtain ⟨d, e3, hd⟩ := open_pf g3
  obtain ⟨a, b, e4, ha, hb⟩ := open_po g4
  obtain ⟨a', b', e5, ha', hb'⟩ := open_po g5
  obtain ⟨t, e6, _⟩ := DataW.trod_bool Try.underlying4 g6
  obtain ⟨c, e7, _⟩ := DataW.trod_int Try.underlying3 g7
  refine ⟨⟨v, p, s, d, a, b, a', b', t, c⟩, ?_, ⟨hs, hd, ha, hb, ha', hb'⟩⟩
  have := dsplit cs 0 1
  rw [List.drop_zero] at this
  rw [this, dsplit cs (0 + 1) 1, dsplit cs (0 + 1 + 1) 18, dsplit cs (0 + 1 + 1 + 18) 18, dsplit cs (0 + 1 + 1 + 18 + 18) 2, dsplit cs (0 + 1 + 1 + 18 + 18 + 2) 2, dsplit cs (0 + 1 + 1 + 18 + 18 + 2 + 2) 1, dsplit cs (0 + 1 + 1 + 18 + 18 + 2 + 2 + 1) 1,
    show cs.drop (0 + 1 + 1 + 18 + 18 + 2 + 2 + 1 + 1) = [] from List.drop_eq_nil_of_le (by omega)]
  rw [List.drop_zero] at e0
  simp only [Nat.zero_add, Nat.reduceAdd] at e1 e2 e3 e4 e5 e6 e7 ⊢
  rw [e0, e1, e2, e3, e4, e5, e6, e7]
  simp [Ru.cs]

theorem open_rules (v : Value) (h : DataW.trod enc Try.prog w base spare held fuel 22 [v] = some x) : ∃ l, Rules w v l := by
  rcases open_slice Try.underlying22 h with ⟨hcs, _⟩ | ⟨a, len, cap, m, n, D, Pl, hcs, hb, hl, hm, hmm, hx, hi⟩
  · simp only [List.cons.injEq, and_true] at hcs
    exact ⟨[], none, 0, hcs, fun _ => rfl, fun h => absurd h (by simp)⟩
  · simp only [List.cons.injEq, and_true] at hcs
    subst hcs
    have hlm : len ≤ m := by rw [hmm]; split <;> omega
    obtain ⟨l, hll, hq⟩ := list_choose (Q := fun i (r : Ru) => r.Ok ∧ ∀ j u, r.cs[j]? = some u → w.cell? (a.add (i * 44 + j)) = some u) len (fun i hil => by
      obtain ⟨cs', hc, ht⟩ := hi i (by omega)
      rw [cOf_ru] at hc
      obtain ⟨r, rfl, hr⟩ := open_ru ht
      obtain ⟨_, hcl, hat⟩ := World.cells?_some hc
      refine ⟨r, hr, fun j u hj => ?_⟩
      have hjl : j < 44 := by rw [← hr.len]; exact (List.getElem?_eq_some_iff.1 hj).1
      rw [← Go.Deep.add_add, hat j hjl, hj])
    refine ⟨l, some a, cap, by rw [hll], (fun e => absurd e (by simp)), fun h0 => ?_⟩
    obtain ⟨b, o, spot⟩ := a
    have h00 := (hq 0 l[0] (List.getElem?_eq_getElem h0)).2 0 _ rfl
    have hspot : spot = none := by simpa [Addr.add] using World.cell?_spot h00
    subst hspot
    have hbl := World.block_lt_of_cell? w _ h00
    refine ⟨b, o, rfl, by simpa [Addr.add] using hbl, fun i r hir => ⟨(hq i r hir).1, fun j u hj => ?_⟩⟩
    have := (hq i r hir).2 j u hj
    rw [Addr.add_lit] at this
    rw [Nat.add_assoc]
    exact this
theorem open_rulesT {a : Option Addr} {len cap : Nat} {d : DataW H} {p : List MemPlace} (h : DataW.Trod enc Try.prog w base spare held 22 (.slice a len cap) d p) : ∃ l, Rules w (.slice a len cap) l := by
  obtain ⟨fuel, hf⟩ := h
  exact open_rules _ (by simpa [Value.cells] using hf)
end
end Go.Proofs.Ytcbkcalemfminaa
