/- The arguments of the laws, opened: fates, calls. -/
import Derived.Test.YtbgjahgmkbbgjaaOpenF
import Derived.Test.YtbgjahgmkbbgjaaDf
import Derived.Lib.SmallJoins
namespace Go.Proofs.Ytbgjahgmkbbgjaa
open Go.ChangeShapes Go.WideShapes Go.Deep Go.RowKit Go.Joins
section
variable {H : Type} {enc : TypeId × Value → H} {w : World} {base : Nat} {spare : Nat → Bool} {held : Bool}

theorem openFates {fuel : Nat} {v : Value} {x : DataW H × List MemPlace} (h : DataW.trod enc Try.prog w base spare held fuel 23 [v] = some x) : ∃ fs, Fates w v fs := by
  rcases open_slice_fields Try.underlying23 Try.underlying44 (by kernel_rfl) (by kernel_rfl) h with ⟨hcs, _⟩ | ⟨a, len, c, m, D, Pl, hcs, hb, hl, hm, hmm, hx, hi⟩
  · simp only [List.cons.injEq, and_true] at hcs
    exact ⟨[], none, 0, hcs, fun h => absurd h (by simp)⟩
  · simp only [List.cons.injEq, and_true] at hcs
    subst hcs
    have hlm : len ≤ m := by rw [hmm]; split <;> omega
    obtain ⟨l, hll, hq⟩ := list_choose (Q := fun i (x : Int × Int) => w.cell? (a.add (i * 2)) = some (.int .i64 x.1) ∧ w.cell? (a.add (i * 2 + 1)) = some (.int .i64 x.2)) len (fun i hil => by
      obtain ⟨ys, n, _, _, _, hf'⟩ := hi i (by omega)
      obtain ⟨v0, y0, c0, _, t0⟩ := hf' 0 _ rfl
      obtain ⟨v1, y1, c1, _, t1⟩ := hf' 1 _ rfl
      obtain ⟨d, e0, _, w0⟩ := DataW.trod_int Try.underlying3 t0
      obtain ⟨t, e1, _, w1⟩ := DataW.trod_int Try.underlying3 t1
      simp only [List.cons.injEq, and_true] at e0 e1
      subst e0 e1
      exact ⟨(d, t), c0, c1⟩)
    refine ⟨l, some a, c, by rw [hll], fun h0 => ?_⟩
    obtain ⟨b, o, spot⟩ := a
    have h00 := (hq 0 l[0] (List.getElem?_eq_getElem h0)).1
    have hspot : spot = none := by simpa [Addr.add] using World.cell?_spot h00
    subst hspot
    have hbl := World.block_lt_of_cell? w _ h00
    refine ⟨b, o, rfl, by simpa [Addr.add] using hbl, fun j k a hj => ?_⟩
    obtain ⟨q0, q1⟩ := hq j (k, a) hj
    rw [Addr.add_lit] at q0 q1
    exact ⟨q0, q1⟩

/-- The four fields of a call. -/
theorem openAct {n0 n1 n2 n3 : Nat} {v0 v1 v2 v3 : Value} {y0 y1 y2 y3 : DataW H × List MemPlace} (t0 : DataW.trod enc Try.prog w base spare held n0 3 [v0] = some y0) (t1 : DataW.trod enc Try.prog w base spare held n1 3 [v1] = some y1)
    (t2 : DataW.trod enc Try.prog w base spare held n2 31 [v2] = some y2) (t3 : DataW.trod enc Try.prog w base spare held n3 23 [v3] = some y3) :
    ∃ A : Act1, v0 = .int .i64 A.kind ∧ v1 = .int .i64 A.at_ ∧ v2 = A.dv ∧ v3 = A.fv ∧ Holds8 w A.dv A.ds ∧ Fates w A.fv A.fs := by
  obtain ⟨k, e0, _, w0⟩ := DataW.trod_int Try.underlying3 t0
  obtain ⟨a, e1, _, w1⟩ := DataW.trod_int Try.underlying3 t1
  obtain ⟨ds, hd⟩ := open8 t2
  obtain ⟨fs, hf⟩ := openFates t3
  simp only [List.cons.injEq, and_true] at e0 e1
  exact ⟨⟨k, a, v2, ds, v3, fs⟩, e0, e1, rfl, rfl, hd, hf⟩

theorem openActs {fuel : Nat} {v : Value} {x : DataW H × List MemPlace} (h : DataW.trod enc Try.prog w base spare held fuel 22 [v] = some x) : ∃ l, IsActs w v l := by
  rcases open_slice_fields Try.underlying22 Try.underlying33 (by kernel_rfl) (by kernel_rfl) h with ⟨hcs, _⟩ | ⟨a, len, c, m, D, Pl, hcs, hb, hl, hm, hmm, hx, hi⟩
  · simp only [List.cons.injEq, and_true] at hcs
    exact ⟨[], none, 0, hcs, fun h => absurd h (by simp)⟩
  · simp only [List.cons.injEq, and_true] at hcs
    subst hcs
    have hlm : len ≤ m := by rw [hmm]; split <;> omega
    obtain ⟨l, hll, hq⟩ := list_choose (Q := fun i (A : Act1) => (w.cell? (a.add (i * 4)) = some (.int .i64 A.kind) ∧ w.cell? (a.add (i * 4 + 1)) = some (.int .i64 A.at_) ∧ w.cell? (a.add (i * 4 + 2)) = some A.dv ∧ w.cell? (a.add (i * 4 + 3)) = some A.fv) ∧ Holds8 w A.dv A.ds ∧ Fates w A.fv A.fs) len (fun i hil => by
      obtain ⟨ys, n, _, _, _, hf'⟩ := hi i (by omega)
      obtain ⟨v0, y0, c0, _, t0⟩ := hf' 0 _ rfl
      obtain ⟨v1, y1, c1, _, t1⟩ := hf' 1 _ rfl
      obtain ⟨v2, y2, c2, _, t2⟩ := hf' 2 _ rfl
      obtain ⟨v3, y3, c3, _, t3⟩ := hf' 3 _ rfl
      obtain ⟨A, e0, e1, e2, e3, hd, hf⟩ := openAct t0 t1 t2 t3
      subst e0 e1 e2 e3
      exact ⟨A, ⟨c0, c1, c2, c3⟩, hd, hf⟩)
    refine ⟨l, some a, c, by rw [hll], fun h0 => ?_⟩
    obtain ⟨b, o, spot⟩ := a
    have h00 := (hq 0 l[0] (List.getElem?_eq_getElem h0)).1.1
    have hspot : spot = none := by simpa [Addr.add] using World.cell?_spot h00
    subst hspot
    have hbl := World.block_lt_of_cell? w _ h00
    refine ⟨b, o, rfl, by simpa [Addr.add] using hbl, fun j A hj => ?_⟩
    obtain ⟨⟨q0, q1, q2, q3⟩, hd, hf⟩ := hq j A hj
    rw [Addr.add_lit] at q0 q1 q2 q3
    exact ⟨q0, q1, q2, q3, hd, hf⟩

theorem openActsT {a : Option Addr} {len cap : Nat} {d : DataW H} {p : List MemPlace} (h : DataW.Trod enc Try.prog w base spare held 22 (.slice a len cap) d p) : ∃ l, IsActs w (.slice a len cap) l := by
  obtain ⟨fuel, hf⟩ := h
  exact openActs (by simpa [Value.cells] using hf)
theorem openFatesT {a : Option Addr} {len cap : Nat} {d : DataW H} {p : List MemPlace} (h : DataW.Trod enc Try.prog w base spare held 23 (.slice a len cap) d p) : ∃ fs, Fates w (.slice a len cap) fs := by
  obtain ⟨fuel, hf⟩ := h
  exact openFates (by simpa [Value.cells] using hf)

theorem open_act {r : Reach} {b0 : Nat} {v : Value} {d : DataW H} {p : List MemPlace} (hv : Value.okWide Try.prog w r b0 33 v) (h : DataW.Trod enc Try.prog w base spare held 33 v d p) :
    ∃ A : Act1, v = .agg #[.int .i64 A.kind, .int .i64 A.at_, A.dv, A.fv] ∧ Holds8 w A.dv A.ds ∧ Fates w A.fv A.fs := by
  obtain ⟨v0, v1, v2, v3, y0, y1, y2, y3, n, rfl, _, _, t0, t1, t2, t3⟩ := open_agg4 Try.underlying33 (by kernel_rfl) (by kernel_rfl) hv h
  obtain ⟨A, rfl, rfl, rfl, rfl, hd, hf⟩ := openAct t0 t1 t2 t3
  exact ⟨A, rfl, hd, hf⟩
end
end Go.Proofs.Ytbgjahgmkbbgjaa
