/- The acts that are handed in, opened; few, Pick, walked. -/
import Derived.Test.YtpnhdfingcfbnaaFc
namespace Go.Proofs.Ytpnhdfingcfbnaa
open Go.ChangeShapes Go.WideShapes Go.Deep Go.RowKit Go.Joins

/-- A call: its kind, its item. -/
structure Act1 where
  kind : Int
  no : Int
  size : Int
  dv : Value
  ds : List Nat

structure ActAt (w : World) (b o : Nat) (A : Act1) : Prop where
  c0 : w.cell? ⟨b, o, none⟩ = some (.int .i64 A.kind)
  c1 : w.cell? ⟨b, o + 1, none⟩ = some (.int .u64 A.no)
  c2 : w.cell? ⟨b, o + 2, none⟩ = some (.int .i64 A.size)
  c3 : w.cell? ⟨b, o + 3, none⟩ = some A.dv
  d : Holds8 w A.dv A.ds
  wno : 0 ≤ A.no ∧ A.no ≤ 18446744073709551615
  wsz : -9223372036854775808 ≤ A.size ∧ A.size ≤ 9223372036854775807

/-- The calls that are handed in. -/
def IsActs (w : World) (v : Value) (l : List Act1) : Prop :=
  ∃ ao cap, v = .slice ao l.length cap ∧ (0 < l.length → ∃ b o, ao = some ⟨b, o, none⟩ ∧ b < w.heap.size ∧ ∀ i A, l[i]? = some A → ActAt w b (o + i * 4) A)

theorem ActAt.below {w w' : World} {b o : Nat} {A : Act1} (h : ActAt w b o A) (hb : b < w.heap.size) (hB : Below w.heap.size w w') : ActAt w' b o A :=
  ⟨(hB.cell (p := ⟨b, o, none⟩) hb).trans h.c0, (hB.cell (p := ⟨b, o + 1, none⟩) hb).trans h.c1, (hB.cell (p := ⟨b, o + 2, none⟩) hb).trans h.c2, (hB.cell (p := ⟨b, o + 3, none⟩) hb).trans h.c3, h.d.below hB, h.wno, h.wsz⟩
theorem IsActs.below {w w' : World} {v : Value} {l : List Act1} (h : IsActs w v l) (hB : Below w.heap.size w w') : IsActs w' v l := by
  obtain ⟨ao, cap, e, h⟩ := h
  refine ⟨ao, cap, e, fun h0 => ?_⟩
  obtain ⟨b, o, e, hb, hA⟩ := h h0
  exact ⟨b, o, e, Nat.lt_of_lt_of_le hb hB.size, fun i A hi => (hA i A hi).below hb hB⟩

section
variable {H : Type} {enc : TypeId × Value → H} {w : World} {base : Nat} {spare : Nat → Bool} {held : Bool}
theorem openActs {fuel : Nat} {v : Value} {x : DataW H × List MemPlace} (h : DataW.trod enc Try.prog w base spare held fuel 22 [v] = some x) : ∃ l, IsActs w v l := by
  have e4 : Try.prog.cellsOf 39 = 4 := by kernel_rfl
  have e3 : Try.prog.cellsOf 37 = 3 := by kernel_rfl
  have e1 : Try.prog.cellsOf 3 = 1 := by kernel_rfl
  have e8 : Try.prog.cellsOf 30 = 1 := by kernel_rfl
  have es : Try.prog.cellsOf 35 = 1 := by kernel_rfl
  rcases open_slice Try.underlying22 h with ⟨hcs, _⟩ | ⟨a, len, c, m, n, D, Pl, hcs, hb, hl, hm, hmm, hx, hi⟩
  · simp only [List.cons.injEq, and_true] at hcs
    exact ⟨[], none, 0, hcs, fun h => absurd h (by simp)⟩
  · simp only [List.cons.injEq, and_true] at hcs
    subst hcs
    have hlm : len ≤ m := by rw [hmm]; split <;> omega
    obtain ⟨l, hll, hq⟩ := list_choose (Q := fun i (A : Act1) => (w.cell? (a.add (i * 4)) = some (.int .i64 A.kind) ∧ w.cell? (a.add (i * 4 + 1)) = some (.int .u64 A.no) ∧ w.cell? (a.add (i * 4 + 2)) = some (.int .i64 A.size) ∧ w.cell? (a.add (i * 4 + 3)) = some A.dv) ∧ Holds8 w A.dv A.ds ∧ (0 ≤ A.no ∧ A.no ≤ 18446744073709551615) ∧ (-9223372036854775808 ≤ A.size ∧ A.size ≤ 9223372036854775807)) len (fun i hil => by
      obtain ⟨cs', hc, ht'⟩ := hi i (by omega)
      rw [e4] at hc
      obtain ⟨_, hcl, hat⟩ := World.cells?_some hc
      have hlen4 : cs'.length = 4 := hcl
      match cs', hlen4 with
      | [x0, x1, x2, x3], _ =>
        have q0 := hat 0 (by omega)
        have q1 := hat 1 (by omega)
        have q2 := hat 2 (by omega)
        have q3 := hat 3 (by omega)
        rw [Go.Deep.add_add] at q0 q1 q2 q3
        obtain ⟨y0, y1, n', _, _, t0, tx⟩ := trod_struct2 Try.underlying39 ht'
        simp only [e1, e3] at t0 tx
        obtain ⟨z0, z1, z2, n'', _, _, t1, t2, t3⟩ := trod_struct3 Try.underlying37 (by simpa using tx)
        simp only [e1, e8, es] at t1 t2 t3
        obtain ⟨d, h0, _, w0⟩ := DataW.trod_int Try.underlying3 (by simpa using t0)
        obtain ⟨k, h1, _, w1⟩ := DataW.trod_int Try.underlying30 (by simpa using t1)
        obtain ⟨s, h2, _, w2⟩ := DataW.trod_int Try.underlying3 (by simpa using t2)
        obtain ⟨ds, hd⟩ := open8 (v := x3) (by simpa using t3)
        simp only [List.cons.injEq, and_true] at h0 h1 h2
        subst h0 h1 h2
        exact ⟨⟨d, k, s, x3, ds⟩, ⟨q0, q1, q2, q3⟩, hd, by simpa [Lit.wf, IntKind.min, IntKind.max, IntKind.signed, IntKind.bits] using w1, by simpa [Lit.wf, IntKind.min, IntKind.max, IntKind.signed, IntKind.bits] using w2⟩)
    refine ⟨l, some a, c, by rw [hll], fun h0 => ?_⟩
    obtain ⟨b, o, spot⟩ := a
    have h00 := (hq 0 l[0] (List.getElem?_eq_getElem h0)).1.1
    have hspot : spot = none := by simpa [Addr.add] using World.cell?_spot h00
    subst hspot
    have hbl := World.block_lt_of_cell? w _ h00
    refine ⟨b, o, rfl, by simpa [Addr.add] using hbl, fun j A hj => ?_⟩
    obtain ⟨⟨q0, q1, q2, q3⟩, hd, hw1, hw2⟩ := hq j A hj
    rw [Addr.add_lit] at q0 q1 q2 q3
    exact ⟨q0, q1, q2, q3, hd, hw1, hw2⟩

theorem openActsT {a : Option Addr} {len cap : Nat} {d : DataW H} {p : List MemPlace} (h : DataW.Trod enc Try.prog w base spare held 22 (.slice a len cap) d p) : ∃ l, IsActs w (.slice a len cap) l := by
  obtain ⟨fuel, hf⟩ := h
  exact openActs (by simpa [Value.cells] using hf)
end

/-- At most 60 calls, of 60 bytes. -/
def FewP (l : List Act1) : Prop := l.length ≤ 60 ∧ ∀ A ∈ l, A.ds.length ≤ 60
def FewRes (l : List Act1) (w : World) (e : Ending) (w' : World) : Prop := ∃ b : Bool, e = .returned (.bool b) ∧ w' = w ∧ (b = true → FewP l)

theorem few_res {l : List Act1} {w : World} {x : Bool} (h : x = true → FewP l) : FewRes l w (.returned (.bool x)) w := ⟨x, rfl, rfl, h⟩

set_option maxRecDepth 100000 in
theorem few_any (v : Value) (l : List Act1) (w : World) (h : IsActs w v l) :
    Calls Try.prog 7 #[v] w (FewRes l w) := by
  obtain ⟨ao, cap, rfl, hc⟩ := h
  have HC := Lib.hid hc
  clear hc
  go_enter Try.func7, Try.ntmps7
  go_wp2_with fail
  go_loop [3] (fun i => ∃ k : Nat, i = .int .i64 k ∧ k ≤ l.length ∧ k ≤ 61 ∧ ∀ A ∈ l.take k, A.ds.length ≤ 60) (fun i => 61 - (intOf i).toNat)
  case atStart => exact ⟨0, rfl, Nat.zero_le _, Nat.zero_le _, by simp⟩
  case round =>
    obtain ⟨k, rfl, hk, hk41, hall⟩ := hrel
    by_cases hlt : k < l.length
    · by_cases h41 : k < 61
      · obtain ⟨b, o, rfl, hb, hA⟩ := HC.out (by omega)
        obtain ⟨A, hAk⟩ : ∃ A, l[k]? = some A := ⟨_, List.getElem?_eq_getElem hlt⟩
        have hA := hA k A hAk
        obtain ⟨da, dc, ed, _⟩ := hA.d
        have c3 := hA.c3
        rw [ed] at c3
        have HALL := Lib.hid hall
        have HAK := Lib.hid hAk
        clear hall hAk hA ed
        by_cases hd : 60 < A.ds.length
        · go_wp2_with fail
          go_ret
          exact few_res (fun h => by simp at h)
        · go_wp2_with fail
          go_round
          case rel =>
            refine ⟨k + 1, by go_num, by omega, by omega, ?_⟩
            intro B hB
            rw [List.take_add_one, HAK.out] at hB
            rcases List.mem_append.1 hB with hB | hB
            · exact HALL.out B hB
            · simp at hB; subst hB; omega
          case measure => simp [intOf]; omega
      · have hlen : ¬ l.length ≤ 60 := by omega
        go_wp2_with fail
        go_ret
        exact few_res (fun h => by simp at h; omega)
    · have HALL := Lib.hid hall
      have hkl : l.take k = l := List.take_of_length_le (by omega)
      have HK := Lib.hid hkl
      clear hall hkl
      go_wp2_with fail
      go_ret
      refine few_res (fun h => ⟨?_, by rw [← HK.out]; exact HALL.out⟩)
      simp at h
      omega

/-- What Pick answers. -/
def pickN (i n : Int) : Nat := ((i.tmod n + n) % n).toNat
theorem pickN_lt {i n : Int} (h0 : 0 < n) : (pickN i n : Int) < n := by
  have h5 := Int.emod_nonneg (i.tmod n + n) (show n ≠ 0 by omega)
  have h6 := Int.emod_lt_of_pos (i.tmod n + n) h0
  unfold pickN
  omega

theorem pick_any (i n : Int) (h0 : 0 < n) (hn : n ≤ 1000000) (w : World) :
    Calls Try.prog 11 #[.int .i64 i, .int .i64 n] w fun e w' => e = .returned (.int .i64 (pickN i n)) ∧ w' = w := by
  have h1 : (i.tmod n) < n := Int.tmod_lt_of_pos i h0
  have h2 : -n < i.tmod n := by have := Int.lt_tmod_of_pos i h0; omega
  have h3 : 0 ≤ (i.tmod n + n).tmod n := Int.tmod_nonneg _ (by omega)
  have h4 : (i.tmod n + n).tmod n < n := Int.tmod_lt_of_pos _ h0
  go_enter Try.func11, Try.ntmps11
  go_wp2_with fail
  go_ret
  have h5 := Int.emod_nonneg (i.tmod n + n) (show n ≠ 0 by omega)
  exact ⟨ret_int (by unfold pickN; omega), rfl⟩
end Go.Proofs.Ytpnhdfingcfbnaa
