/- An argument that is a slice of structs of one-cell fields, opened: a lemma of the guide's page of lemmas to copy; and the acts of a law. -/
import Derived.Deep.Slices
import Derived.Deep.Fields
import Derived.ChangeSame
import Derived.Test.YtkghnapodbodkaaBp3
import Derived.OpenShut
namespace Go.Proofs.Ytkghnapodbodkaa
open Go.ChangeShapes Go.WideShapes Go.Deep Go.RowKit
section
variable {H : Type} {enc : TypeId × Value → H} {P : Program} {w : World} {base : Nat} {spare : Nat → Bool} {held : Bool}
theorem open_slice_fields {t e : TypeId} {fs : Array Field} {fuel : Nat} {cs : List Value} {x : DataW H × List MemPlace} (ht : P.underlying t = some (.slice e)) (he : P.underlying e = some (.struct fs))
    (hone : oneCellFields P fs = true) (hC : P.cellsOf e = fs.size) (h : DataW.trod enc P w base spare held fuel t cs = some x) :
    (cs = [.slice none 0 0] ∧ x = (.nil, [])) ∨
    ∃ (a : Addr) (len cap m : Nat) (D : Nat → DataW H) (Pl : Nat → List MemPlace), cs = [.slice (some a) len cap] ∧ base ≤ a.block ∧ len ≤ cap ∧ cap ≤ maxLen ∧ m = (if spare a.block then cap else len) ∧
      x = (.slice ((List.range len).map D) ((List.range (m - len)).map fun j => D (len + j)), MemPlace.row a (m * fs.size) ++ (List.range m).flatMap Pl) ∧
      ∀ i, i < m → ∃ (ys : List (DataW H × List MemPlace)) (n : Nat), D i = .agg (ys.map (·.1)) ∧ Pl i = ys.flatMap (·.2) ∧ ys.length = fs.size ∧
        ∀ (j : Nat) (f : Field), fs[j]? = some f → ∃ (v : Value) (y : DataW H × List MemPlace), w.cell? (a.add (i * fs.size + j)) = some v ∧ ys[j]? = some y ∧ DataW.trod enc P w base spare held n f.type [v] = some y := by
  rcases open_slice ht h with h0 | ⟨a, len, cap, m, n, D, Pl, hcs, hb, hl, hm, hmm, hx, hi⟩
  · exact .inl h0
  · refine .inr ⟨a, len, cap, m, D, Pl, hcs, hb, hl, hm, hmm, by rw [hC] at hx; exact hx, fun i him => ?_⟩
    obtain ⟨cs', hc, ht'⟩ := hi i him
    rw [hC] at hc
    obtain ⟨ys, n', hn', hy, hlen, hyl, hf⟩ := DataW.trod_struct he ht'
    obtain ⟨_, hcl, hat⟩ := World.cells?_some hc
    simp only [Prod.mk.injEq] at hy
    refine ⟨ys, n', hy.1, hy.2, hyl, fun j f hj => ?_⟩
    obtain ⟨ho, hk⟩ := hone_of hone j f hj
    have hjl : j < fs.size := (Array.getElem?_eq_some_iff.1 hj).1
    have hcell := hat j hjl
    have hv : cs'[j]? = some (cs'[j]'(by omega)) := List.getElem?_eq_getElem (by omega)
    have h1 := hf j f hj
    rw [ho, hk] at h1
    have hone' : (cs'.drop j).take 1 = [cs'[j]'(by omega)] := by
      rw [List.drop_eq_getElem_cons (by omega)]
      rfl
    rw [hone'] at h1
    have hys : ys[j]? = some (ys[j]'(by omega)) := List.getElem?_eq_getElem (by omega)
    refine ⟨_, _, ?_, hys, h1.trans hys⟩
    rw [← Go.Deep.add_add, hcell, hv]
end
theorem acts_open {H : Type} {enc : TypeId × Value → H} {w : World} {base : Nat} {spare : Nat → Bool} {held : Bool} {a : Option Addr} {len cap : Nat} {d : DataW H} {p : List MemPlace}
    (h : DataW.Trod enc Try.prog w base spare held 32 (.slice a len cap) d p) : IsActs w a len := by
  obtain ⟨fuel, hf⟩ := h
  rcases open_slice_fields Try.underlying32 Try.underlying40 (by kernel_rfl) (by kernel_rfl) hf with ⟨hcs, _⟩ | ⟨x, l, c, m, D, Pl, hcs, hb, hl, hm, hmm, hx, hi⟩
  · simp [Value.cells] at hcs
    exact .inl hcs.2.1
  · simp [Value.cells] at hcs
    obtain ⟨rfl, rfl, rfl⟩ := hcs
    by_cases h0 : len = 0
    · exact .inl h0
    · refine .inr ?_
      have hlm : len ≤ m := by rw [hmm]; split <;> omega
      have key : ∀ i, i < len → ∃ (d : Int) (t n : Nat), t < 18446744073709551616 ∧ w.cell? (x.add (i * 3)) = some (.int .i64 d) ∧ w.cell? (x.add (i * 3 + 1)) = some (.int .u64 t) ∧ w.cell? (x.add (i * 3 + 2)) = some (.int .u64 n) := by
        intro i hil
        obtain ⟨ys, n, _, _, _, hf'⟩ := hi i (by omega)
        obtain ⟨v0, y0, c0, _, t0⟩ := hf' 0 _ rfl
        obtain ⟨v1, y1, c1, _, t1⟩ := hf' 1 _ rfl
        obtain ⟨v2, y2, c2, _, t2⟩ := hf' 2 _ rfl
        obtain ⟨d, e0, _, w0⟩ := DataW.trod_int Try.underlying3 t0
        obtain ⟨t, e1, _, w1⟩ := DataW.trod_int Try.underlying28 t1
        obtain ⟨n', e2, _, w2⟩ := DataW.trod_int Try.underlying28 t2
        simp only [List.cons.injEq, and_true] at e0 e1 e2
        subst e0 e1 e2
        have b1 := bounds_u64 w1
        have b2 := bounds_u64 w2
        obtain ⟨t, rfl⟩ := Int.eq_ofNat_of_zero_le b1.1
        obtain ⟨n', rfl⟩ := Int.eq_ofNat_of_zero_le b2.1
        exact ⟨d, t, n', by omega, c0, c1, c2⟩
      obtain ⟨b3, o3, spot⟩ := x
      have hspot : spot = none := by
        obtain ⟨d, t, n, _, c0, _⟩ := key 0 (by omega)
        simpa [Addr.add] using World.cell?_spot c0
      subst hspot
      refine ⟨b3, o3, rfl, ?_, ?_⟩
      · obtain ⟨d, t, n, _, c0, _⟩ := key 0 (by omega)
        have h0' := World.block_lt_of_cell? w _ c0
        simpa [Addr.add] using h0'
      · intro i hil
        obtain ⟨d, t, n, ht, c0, c1, c2⟩ := key i hil
        rw [Addr.add_lit] at c0 c1 c2
        exact ⟨d, t, n, ht, c0, c1, c2⟩
end Go.Proofs.Ytkghnapodbodkaa
