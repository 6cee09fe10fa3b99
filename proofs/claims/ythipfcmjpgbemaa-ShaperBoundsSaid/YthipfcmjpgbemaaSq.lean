/- The acts and the classes that are handed in, opened; few, Pick, walked. -/
import Derived.Test.YthipfcmjpgbemaaSo
import Derived.Test.YthipfcmjpgbemaaOpenF
import Derived.Lib.SmallJoins
namespace Go.Proofs.Ythipfcmjpgbemaa
open Go.ChangeShapes Go.WideShapes Go.Deep Go.RowKit Go.Joins

/-- A call: its kind, its class, its item, its tick. -/
structure Ac where
  kind : Int
  cls : Int
  no : Nat
  size : Int
  dv : Value
  ds : List Nat
  tick : Nat
structure Ac.Wf (A : Ac) : Prop where
  kind : -9223372036854775808 ≤ A.kind ∧ A.kind ≤ 9223372036854775807
  cls : -9223372036854775808 ≤ A.cls ∧ A.cls ≤ 9223372036854775807
  no : A.no < 18446744073709551616
  size : -9223372036854775808 ≤ A.size ∧ A.size ≤ 9223372036854775807
  tick : A.tick < 18446744073709551616
def Ac.arr (A : Ac) : Array Value := #[.int .i64 A.kind, .int .i64 A.cls, .int .u64 A.no, .int .i64 A.size, A.dv, .int .u64 A.tick]

structure AcAt (w : World) (b o : Nat) (A : Ac) : Prop where
  c0 : w.cell? ⟨b, o, none⟩ = some (.int .i64 A.kind)
  c1 : w.cell? ⟨b, o + 1, none⟩ = some (.int .i64 A.cls)
  c2 : w.cell? ⟨b, o + 2, none⟩ = some (.int .u64 A.no)
  c3 : w.cell? ⟨b, o + 3, none⟩ = some (.int .i64 A.size)
  c4 : w.cell? ⟨b, o + 4, none⟩ = some A.dv
  c5 : w.cell? ⟨b, o + 5, none⟩ = some (.int .u64 A.tick)
  d : Holds8 w A.dv A.ds
  wf : A.Wf

/-- The calls that are handed in. -/
def IsAcs (w : World) (v : Value) (l : List Ac) : Prop :=
  ∃ ao cap, v = .slice ao l.length cap ∧ (0 < l.length → ∃ b o, ao = some ⟨b, o, none⟩ ∧ b < w.heap.size ∧ ∀ i A, l[i]? = some A → AcAt w b (o + i * 6) A)

theorem AcAt.below {w w' : World} {b o : Nat} {A : Ac} (h : AcAt w b o A) (hb : b < w.heap.size) (hB : Below w.heap.size w w') : AcAt w' b o A :=
  ⟨(hB.cell (p := ⟨b, o, none⟩) hb).trans h.c0, (hB.cell (p := ⟨b, o + 1, none⟩) hb).trans h.c1, (hB.cell (p := ⟨b, o + 2, none⟩) hb).trans h.c2, (hB.cell (p := ⟨b, o + 3, none⟩) hb).trans h.c3, (hB.cell (p := ⟨b, o + 4, none⟩) hb).trans h.c4, (hB.cell (p := ⟨b, o + 5, none⟩) hb).trans h.c5, h.d.below hB, h.wf⟩
theorem IsAcs.below {w w' : World} {v : Value} {l : List Ac} (h : IsAcs w v l) (hB : Below w.heap.size w w') : IsAcs w' v l := by
  obtain ⟨ao, cap, e, h⟩ := h
  refine ⟨ao, cap, e, fun h0 => ?_⟩
  obtain ⟨b, o, e, hb, hA⟩ := h h0
  exact ⟨b, o, e, Nat.lt_of_lt_of_le hb hB.size, fun i A hi => (hA i A hi).below hb hB⟩

section
variable {H : Type} {enc : TypeId × Value → H} {w : World} {base : Nat} {spare : Nat → Bool} {held : Bool}
theorem openAct1 {fuel : Nat} {x0 x1 x2 x3 x4 x5 : Value} {x : DataW H × List MemPlace} (h : DataW.trod enc Try.prog w base spare held fuel 36 [x0, x1, x2, x3, x4, x5] = some x) :
    ∃ A : Ac, (#[x0, x1, x2, x3, x4, x5] : Array Value) = A.arr ∧ Holds8 w A.dv A.ds ∧ A.Wf := by
  have e3 : Try.prog.cellsOf 34 = 3 := by kernel_rfl
  have e1 : Try.prog.cellsOf 3 = 1 := by kernel_rfl
  have e8 : Try.prog.cellsOf 30 = 1 := by kernel_rfl
  have es : Try.prog.cellsOf 32 = 1 := by kernel_rfl
  obtain ⟨y0, y1, y2, y3, n', _, _, t0, t1, tx, t5⟩ := trod_struct4 Try.underlying36 h
  simp only [e1, e3, e8] at t0 t1 tx t5
  obtain ⟨z0, z1, z2, n'', _, _, u1, u2, u3⟩ := trod_struct3 Try.underlying34 (by simpa using tx)
  simp only [e1, e8, es] at u1 u2 u3
  obtain ⟨d, h0, _, w0⟩ := DataW.trod_int Try.underlying3 (by simpa using t0)
  obtain ⟨c, h1, _, w1⟩ := DataW.trod_int Try.underlying3 (by simpa using t1)
  obtain ⟨k, h2, _, w2⟩ := DataW.trod_int Try.underlying30 (by simpa using u1)
  obtain ⟨s, h3, _, w3⟩ := DataW.trod_int Try.underlying3 (by simpa using u2)
  obtain ⟨ds, hd⟩ := open8 (v := x4) (by simpa using u3)
  obtain ⟨t, h5, _, w5⟩ := DataW.trod_int Try.underlying30 (by simpa using t5)
  simp only [List.cons.injEq, and_true] at h0 h1 h2 h3 h5
  have b0 : -9223372036854775808 ≤ d ∧ d ≤ 9223372036854775807 := by simpa [Lit.wf, IntKind.min, IntKind.max, IntKind.signed, IntKind.bits] using w0
  have b1 : -9223372036854775808 ≤ c ∧ c ≤ 9223372036854775807 := by simpa [Lit.wf, IntKind.min, IntKind.max, IntKind.signed, IntKind.bits] using w1
  have b2 : 0 ≤ k ∧ k ≤ 18446744073709551615 := by simpa [Lit.wf, IntKind.min, IntKind.max, IntKind.signed, IntKind.bits] using w2
  have b3 : -9223372036854775808 ≤ s ∧ s ≤ 9223372036854775807 := by simpa [Lit.wf, IntKind.min, IntKind.max, IntKind.signed, IntKind.bits] using w3
  have b5 : 0 ≤ t ∧ t ≤ 18446744073709551615 := by simpa [Lit.wf, IntKind.min, IntKind.max, IntKind.signed, IntKind.bits] using w5
  subst h0 h1 h2 h3 h5
  refine ⟨⟨d, c, k.toNat, s, x4, ds, t.toNat⟩, ?_, hd, ⟨b0, b1, by simp; omega, b3, by simp; omega⟩⟩
  unfold Ac.arr
  rw [show ((k.toNat : Nat) : Int) = k by omega, show ((t.toNat : Nat) : Int) = t by omega]
theorem list6 {α : Type} : ∀ {cs : List α}, cs.length = 6 → ∃ a b c d e f, cs = [a, b, c, d, e, f]
  | [a, b, c, d, e, f], _ => ⟨a, b, c, d, e, f, rfl⟩
theorem openAcs {fuel : Nat} {v : Value} {x : DataW H × List MemPlace} (h : DataW.trod enc Try.prog w base spare held fuel 23 [v] = some x) : ∃ l, IsAcs w v l := by
  have e6 : Try.prog.cellsOf 36 = 6 := by kernel_rfl
  rcases open_slice Try.underlying23 h with ⟨hcs, _⟩ | ⟨a, len, c, m, n, D, Pl, hcs, hb, hl, hm, hmm, hx, hi⟩
  · simp only [List.cons.injEq, and_true] at hcs
    exact ⟨[], none, 0, hcs, fun h => absurd h (by simp)⟩
  · simp only [List.cons.injEq, and_true] at hcs
    subst hcs
    have hlm : len ≤ m := by rw [hmm]; split <;> omega
    obtain ⟨l, hll, hq⟩ := list_choose (Q := fun i (A : Ac) => (∀ j, j < 6 → w.cell? (a.add (i * 6 + j)) = A.arr[j]?) ∧ Holds8 w A.dv A.ds ∧ A.Wf) len (fun i hil => by
      obtain ⟨cs', hc, ht'⟩ := hi i (by omega)
      rw [e6] at hc
      obtain ⟨_, hcl, hat⟩ := World.cells?_some hc
      obtain ⟨x0, x1, x2, x3, x4, x5, rfl⟩ := list6 hcl
      obtain ⟨A, eA, hd, hw⟩ := openAct1 ht'
      refine ⟨A, fun j hj => ?_, hd, hw⟩
      have q := hat j hj
      rw [Go.Deep.add_add] at q
      rw [q, ← eA]
      exact (List.getElem?_toArray ..).symm)
    refine ⟨l, some a, c, by rw [hll], fun h0 => ?_⟩
    obtain ⟨b, o, spot⟩ := a
    have h00 := (hq 0 l[0] (List.getElem?_eq_getElem h0)).1 0 (by decide)
    have hspot : spot = none := by
      have h1 : w.cell? ((⟨b, o, spot⟩ : Addr).add (0 * 6 + 0)) = some (.int .i64 l[0].kind) := h00
      simpa [Addr.add] using World.cell?_spot h1
    subst hspot
    have hbl : b < w.heap.size := by
      have h1 : w.cell? ((⟨b, o, none⟩ : Addr).add (0 * 6 + 0)) = some (.int .i64 l[0].kind) := h00
      simpa [Addr.add] using World.block_lt_of_cell? w _ h1
    refine ⟨b, o, rfl, hbl, fun j A hj => ?_⟩
    obtain ⟨q, hd, hw⟩ := hq j A hj
    have q0 := q 0 (by decide)
    have q1 := q 1 (by decide)
    have q2 := q 2 (by decide)
    have q3 := q 3 (by decide)
    have q4 := q 4 (by decide)
    have q5 := q 5 (by decide)
    rw [Addr.add_lit] at q0 q1 q2 q3 q4 q5
    exact ⟨q0, q1, q2, q3, q4, q5, hd, hw⟩
theorem openActsT {a : Option Addr} {len cap : Nat} {d : DataW H} {p : List MemPlace} (h : DataW.Trod enc Try.prog w base spare held 23 (.slice a len cap) d p) : ∃ l, IsAcs w (.slice a len cap) l := by
  obtain ⟨fuel, hf⟩ := h
  exact openAcs (by simpa [Value.cells] using hf)
set_option maxRecDepth 100000 in
theorem open_act {r : Reach} {b0 : Nat} {v : Value} {d : DataW H} {p : List MemPlace} (hv : Value.okWide Try.prog w r b0 36 v) (h : DataW.Trod enc Try.prog w base spare held 36 v d p) :
    ∃ A : Ac, v = .agg A.arr ∧ Holds8 w A.dv A.ds ∧ A.Wf := by
  obtain ⟨cs, rfl, hsz⟩ := okWide_struct Try.underlying36 hv
  have e6 : Try.prog.cellsOf 36 = 6 := by kernel_rfl
  obtain ⟨fuel, hf⟩ := h
  have hl : cs.toList.length = 6 := by rw [e6] at hsz; exact hsz
  obtain ⟨x0, x1, x2, x3, x4, x5, e⟩ := list6 hl
  have ec : cs = #[x0, x1, x2, x3, x4, x5] := by rw [← Array.toArray_toList (xs := cs), e]
  subst ec
  obtain ⟨A, eA, hd, hw⟩ := openAct1 (show DataW.trod enc Try.prog w base spare held fuel 36 [x0, x1, x2, x3, x4, x5] = _ from hf)
  exact ⟨A, by rw [← eA], hd, hw⟩

theorem openCls {a : Option Addr} {len cap : Nat} {d : DataW H} {p : List MemPlace} (h : DataW.Trod enc Try.prog w base spare held 22 (.slice a len cap) d p) : ∃ l, Cls w (.slice a len cap) l := by
  obtain ⟨fuel, hf⟩ := h
  have hf : DataW.trod enc Try.prog w base spare held fuel 22 [.slice a len cap] = some (d, p) := by simpa [Value.cells] using hf
  rcases open_slice_fields Try.underlying22 Try.underlying46 (by kernel_rfl) (by kernel_rfl) hf with ⟨hcs, _⟩ | ⟨ad, len', c, m, D, Pl, hcs, hb, hl, hm, hmm, hx, hi⟩
  · simp only [List.cons.injEq, and_true] at hcs
    exact ⟨[], ⟨none, 0, by rw [hcs]; rfl, Nat.le_refl _, fun h => absurd h (by simp)⟩, fun x hx => by cases hx⟩
  · simp only [List.cons.injEq, and_true] at hcs
    rw [hcs]
    have hlm : len' ≤ m := by rw [hmm]; split <;> omega
    obtain ⟨l, hll, hq⟩ := list_choose (Q := fun i (x : Cl) => (w.cell? (ad.add (i * 4)) = some (.int .u64 x.rate) ∧ w.cell? (ad.add (i * 4 + 1)) = some (.int .u64 x.burst) ∧ w.cell? (ad.add (i * 4 + 2)) = some (.int .i64 x.items) ∧ w.cell? (ad.add (i * 4 + 3)) = some (.int .i64 x.size)) ∧ x.Ok) len' (fun i hil => by
      obtain ⟨ys, n, _, _, hyl, hf⟩ := hi i (by omega)
      obtain ⟨v0, y0, q0, _, t0⟩ := hf 0 _ rfl
      obtain ⟨v1, y1, q1, _, t1⟩ := hf 1 _ rfl
      obtain ⟨v2, y2, q2, _, t2⟩ := hf 2 _ rfl
      obtain ⟨v3, y3, q3, _, t3⟩ := hf 3 _ rfl
      obtain ⟨k0, h0, _, w0⟩ := DataW.trod_int Try.underlying30 t0
      obtain ⟨k1, h1, _, w1⟩ := DataW.trod_int Try.underlying30 t1
      obtain ⟨k2, h2, _, w2⟩ := DataW.trod_int Try.underlying3 t2
      obtain ⟨k3, h3, _, w3⟩ := DataW.trod_int Try.underlying3 t3
      simp only [List.cons.injEq, and_true] at h0 h1 h2 h3
      subst h0 h1 h2 h3
      have b0 : 0 ≤ k0 ∧ k0 ≤ 18446744073709551615 := by simpa [Lit.wf, IntKind.min, IntKind.max, IntKind.signed, IntKind.bits] using w0
      have b1 : 0 ≤ k1 ∧ k1 ≤ 18446744073709551615 := by simpa [Lit.wf, IntKind.min, IntKind.max, IntKind.signed, IntKind.bits] using w1
      have b2 : -9223372036854775808 ≤ k2 ∧ k2 ≤ 9223372036854775807 := by simpa [Lit.wf, IntKind.min, IntKind.max, IntKind.signed, IntKind.bits] using w2
      have b3 : -9223372036854775808 ≤ k3 ∧ k3 ≤ 9223372036854775807 := by simpa [Lit.wf, IntKind.min, IntKind.max, IntKind.signed, IntKind.bits] using w3
      refine ⟨⟨k0.toNat, k1.toNat, k2, k3⟩, ⟨?_, ?_, q2, q3⟩, ⟨by simp; omega, by simp; omega, b2, b3⟩⟩
      · rw [show ((k0.toNat : Nat) : Int) = k0 by omega]; exact q0
      · rw [show ((k1.toNat : Nat) : Int) = k1 by omega]; exact q1)
    refine ⟨l, ⟨some ad, c, by rw [hll], by rw [hll]; exact hl, fun h0 => ?_⟩, fun x hx => ?_⟩
    · obtain ⟨b, o, spot⟩ := ad
      have h00 := (hq 0 l[0] (List.getElem?_eq_getElem h0)).1.1
      have hspot : spot = none := by simpa [Addr.add] using World.cell?_spot h00
      subst hspot
      have hbl := World.block_lt_of_cell? w _ h00
      refine ⟨b, o, rfl, by simpa [Addr.add] using hbl, fun j x hj => ?_⟩
      obtain ⟨⟨q0, q1, q2, q3⟩, _⟩ := hq j x hj
      rw [Addr.add_lit] at q0 q1 q2 q3
      exact ⟨q0, q1, q2, q3⟩
    · obtain ⟨j, hj⟩ := List.mem_iff_getElem?.1 hx
      exact (hq j x hj).2
end

/-- At most m calls, of 20 bytes. -/
def FewA (m : Nat) (l : List Ac) : Prop := l.length ≤ m ∧ ∀ A ∈ l, A.ds.length ≤ 20
def FewRes (m : Nat) (l : List Ac) (w : World) (e : Ending) (w' : World) : Prop := ∃ b : Bool, e = .returned (.bool b) ∧ w' = w ∧ (b = true → FewA m l) ∧ (FewA m l → b = true)

set_option maxRecDepth 100000 in
theorem few_any (v : Value) (l : List Ac) (m : Nat) (hm : m ≤ 1000000) (w : World) (h : IsAcs w v l) :
    Calls Try.prog 8 #[v, .int .i64 m] w (FewRes m l w) := by
  obtain ⟨ao, cap, rfl, hc⟩ := h
  have HC := Lib.hid hc
  clear hc
  go_enter Try.func8, Try.ntmps8
  go_wp2_with fail
  go_loop [5] (fun i => ∃ k : Nat, i = .int .i64 k ∧ k ≤ l.length ∧ k ≤ m + 1 ∧ ∀ A ∈ l.take k, A.ds.length ≤ 20) (fun i => m + 1 - (intOf i).toNat)
  case atStart => exact ⟨0, rfl, Nat.zero_le _, Nat.zero_le _, by simp⟩
  case round =>
    obtain ⟨k, rfl, hk, hk41, hall⟩ := hrel
    by_cases hlt : k < l.length
    · by_cases h41 : k < m + 1
      · obtain ⟨b, o, rfl, hb, hA⟩ := HC.out (by omega)
        obtain ⟨A, hAk⟩ : ∃ A, l[k]? = some A := ⟨_, List.getElem?_eq_getElem hlt⟩
        have hA := hA k A hAk
        obtain ⟨da, dc, ed, _⟩ := hA.d
        have c4 := hA.c4
        rw [ed] at c4
        have HALL := Lib.hid hall
        have HAK := Lib.hid hAk
        have hki : (k : Int) < (l.length : Int) := by omega
        have hkm : (k : Int) ≤ (m : Int) := by omega
        clear hall hAk hA ed
        by_cases hd : 20 < A.ds.length
        · go_wp2_with fail
          go_ret
          exact ⟨false, rfl, rfl, fun h => Bool.noConfusion h, fun h => absurd (h.2 A (List.mem_of_getElem? HAK.out)) (by omega)⟩
        · go_wp2_with fail
          go_round
          case rel =>
            refine ⟨k + 1, by go_num, by omega, by omega, ?_⟩
            intro B hB
            rw [List.take_add_one, HAK.out] at hB
            rcases List.mem_append.1 hB with hB | hB
            · exact HALL.out B hB
            · simp at hB; subst hB; omega
          case measure => simp [intOf]; omega
      · have hlen : ¬ (l.length : Int) ≤ (m : Int) := by omega
        have hki : (k : Int) < (l.length : Int) := by omega
        have hkm : ¬ (k : Int) ≤ (m : Int) := by omega
        go_wp2_with fail
        go_ret
        refine ⟨false, ?_, rfl, fun h => Bool.noConfusion h, fun h => absurd h.1 (by omega)⟩
        simp
    · have HALL := Lib.hid hall
      have hkl : l.take k = l := List.take_of_length_le (by omega)
      have HK := Lib.hid hkl
      have hki : ¬ (k : Int) < (l.length : Int) := by omega
      clear hall hkl
      go_wp2_with fail
      go_ret
      refine ⟨decide (l.length ≤ m), ?_, rfl, fun h => ⟨of_decide_eq_true h, by rw [← HK.out]; exact HALL.out⟩, fun h => decide_eq_true h.1⟩
      simp

/-- What Pick answers. -/
def pickN (i n : Int) : Nat := ((i.tmod n + n) % n).toNat
theorem pickN_lt {i n : Int} (h0 : 0 < n) : (pickN i n : Int) < n := by
  have h5 := Int.emod_nonneg (i.tmod n + n) (show n ≠ 0 by omega)
  have h6 := Int.emod_lt_of_pos (i.tmod n + n) h0
  unfold pickN
  omega

theorem pick_any (i n : Int) (h0 : 0 < n) (hn : n ≤ 1000000) (w : World) :
    Calls Try.prog 14 #[.int .i64 i, .int .i64 n] w fun e w' => e = .returned (.int .i64 (pickN i n)) ∧ w' = w := by
  have h1 : (i.tmod n) < n := Int.tmod_lt_of_pos i h0
  have h2 : -n < i.tmod n := by have := Int.lt_tmod_of_pos i h0; omega
  have h3 : 0 ≤ (i.tmod n + n).tmod n := Int.tmod_nonneg _ (by omega)
  have h4 : (i.tmod n + n).tmod n < n := Int.tmod_lt_of_pos _ h0
  go_enter Try.func14, Try.ntmps14
  go_wp2_with fail
  go_ret
  have h5 := Int.emod_nonneg (i.tmod n + n) (show n ≠ 0 by omega)
  exact ⟨ret_int (by unfold pickN; omega), rfl⟩
end Go.Proofs.Ythipfcmjpgbemaa
