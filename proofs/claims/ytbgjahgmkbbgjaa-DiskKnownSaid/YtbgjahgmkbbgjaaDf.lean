/- The acts that are handed in; few, walked. -/
import Derived.Test.YtbgjahgmkbbgjaaDw
namespace Go.Proofs.Ytbgjahgmkbbgjaa
open Go.RowKit

/-- A call: its kind, its place, its bytes, its fates. -/
structure Act1 where
  kind : Int
  at_ : Int
  dv : Value
  ds : List Nat
  fv : Value
  fs : List (Int × Int)

structure ActAt (w : World) (b o : Nat) (A : Act1) : Prop where
  c0 : w.cell? ⟨b, o, none⟩ = some (.int .i64 A.kind)
  c1 : w.cell? ⟨b, o + 1, none⟩ = some (.int .i64 A.at_)
  c2 : w.cell? ⟨b, o + 2, none⟩ = some A.dv
  c3 : w.cell? ⟨b, o + 3, none⟩ = some A.fv
  d : Holds8 w A.dv A.ds
  f : Fates w A.fv A.fs

/-- The calls that are handed in. -/
def IsActs (w : World) (v : Value) (l : List Act1) : Prop :=
  ∃ ao cap, v = .slice ao l.length cap ∧ (0 < l.length → ∃ b o, ao = some ⟨b, o, none⟩ ∧ b < w.heap.size ∧ ∀ i A, l[i]? = some A → ActAt w b (o + i * 4) A)

theorem Fates.below {w w' : World} {v : Value} {fs : List (Int × Int)} (h : Fates w v fs) (hB : Below w.heap.size w w') : Fates w' v fs := by
  by_cases h0 : 0 < fs.length
  · exact h.keep hB.size (fun k hk => hB.block k (h.lt h0 k hk))
  · obtain ⟨ao, cap, e, _⟩ := h
    exact ⟨ao, cap, e, fun h => absurd h h0⟩
theorem ActAt.below {w w' : World} {b o : Nat} {A : Act1} (h : ActAt w b o A) (hb : b < w.heap.size) (hB : Below w.heap.size w w') : ActAt w' b o A :=
  ⟨(hB.cell (p := ⟨b, o, none⟩) hb).trans h.c0, (hB.cell (p := ⟨b, o + 1, none⟩) hb).trans h.c1, (hB.cell (p := ⟨b, o + 2, none⟩) hb).trans h.c2, (hB.cell (p := ⟨b, o + 3, none⟩) hb).trans h.c3, h.d.below hB, h.f.below hB⟩
theorem IsActs.below {w w' : World} {v : Value} {l : List Act1} (h : IsActs w v l) (hB : Below w.heap.size w w') : IsActs w' v l := by
  obtain ⟨ao, cap, e, h⟩ := h
  refine ⟨ao, cap, e, fun h0 => ?_⟩
  obtain ⟨b, o, e, hb, hA⟩ := h h0
  exact ⟨b, o, e, Nat.lt_of_lt_of_le hb hB.size, fun i A hi => (hA i A hi).below hb hB⟩

/-- At most 40 calls, of 60 bytes, and 60 fates. -/
def FewP (l : List Act1) : Prop := l.length ≤ 40 ∧ ∀ A ∈ l, A.ds.length ≤ 60 ∧ A.fs.length ≤ 60
def FewRes (l : List Act1) (w : World) (e : Ending) (w' : World) : Prop := ∃ b : Bool, e = .returned (.bool b) ∧ w' = w ∧ (b = true → FewP l)

theorem few_res {l : List Act1} {w : World} {x : Bool} (h : x = true → FewP l) : FewRes l w (.returned (.bool x)) w := ⟨x, rfl, rfl, h⟩

set_option maxRecDepth 100000 in
theorem few_any (v : Value) (l : List Act1) (w : World) (h : IsActs w v l) :
    Calls Try.prog 7 #[v] w (FewRes l w) := by
  obtain ⟨ao, cap, rfl, hc⟩ := h
  have HC := Lib.hid hc
  clear hc
  go_enter Try.func7, Try.ntmps7
  go_wp2_with fail
  go_loop [3] (fun i => ∃ k : Nat, i = .int .i64 k ∧ k ≤ l.length ∧ k ≤ 41 ∧ ∀ A ∈ l.take k, A.ds.length ≤ 60 ∧ A.fs.length ≤ 60) (fun i => 41 - (intOf i).toNat)
  case atStart => exact ⟨0, rfl, Nat.zero_le _, Nat.zero_le _, by simp⟩
  case round =>
    obtain ⟨k, rfl, hk, hk41, hall⟩ := hrel
    by_cases hlt : k < l.length
    · by_cases h41 : k < 41
      · obtain ⟨b, o, rfl, hb, hA⟩ := HC.out (by omega)
        obtain ⟨A, hAk⟩ : ∃ A, l[k]? = some A := ⟨_, List.getElem?_eq_getElem hlt⟩
        have hA := hA k A hAk
        obtain ⟨da, dc, ed, _⟩ := hA.d
        obtain ⟨fa, fc, ef, _⟩ := hA.f
        have c2 := hA.c2
        have c3 := hA.c3
        rw [ed] at c2
        rw [ef] at c3
        have HALL := Lib.hid hall
        have HAK := Lib.hid hAk
        clear hall hAk hA ed ef
        by_cases hd : 60 < A.ds.length
        · go_wp2_with fail
          go_ret
          exact few_res (fun h => by simp at h)
        · by_cases hf : 60 < A.fs.length
          · go_wp2_with fail
            go_ret
            exact few_res (fun h => by simp at h)
          · go_wp2_with fail
            go_round
            case rel =>
              refine ⟨k + 1, by go_num, by omega, by omega, ?_⟩
              intro B hB
              rw [List.take_add_one, HAK.out] at hB
              rcases List.mem_append.1 hB with hB | hB
              · exact HALL.out B hB
              · simp at hB; subst hB; omega
            case measure => simp [intOf]; omega
      · have hlen : ¬ l.length ≤ 40 := by omega
        go_wp2_with fail
        go_ret
        exact few_res (fun h => by simp at h; omega)
    · have HALL := Lib.hid hall
      have hkl : l.take k = l := List.take_of_length_le (by omega)
      have HK := Lib.hid hkl
      clear hall hkl
      go_wp2_with fail
      go_ret
      refine few_res (fun h => ⟨?_, by rw [← HK.out]; exact HALL.out⟩)
      simp at h
      omega

theorem pick_any (i n : Int) (h0 : 0 < n) (hn : n ≤ 1000000) (w : World) :
    Calls Try.prog 6 #[.int .i64 i, .int .i64 n] w fun e w' => ∃ m : Nat, e = .returned (.int .i64 m) ∧ m < n ∧ w' = w := by
  have h1 : (i.tmod n) < n := Int.tmod_lt_of_pos i h0
  have h2 : -n < i.tmod n := by have := Int.lt_tmod_of_pos i h0; omega
  have h3 : 0 ≤ (i.tmod n + n).tmod n := Int.tmod_nonneg _ (by omega)
  have h4 : (i.tmod n + n).tmod n < n := Int.tmod_lt_of_pos _ h0
  go_enter Try.func6, Try.ntmps6
  go_wp2_with fail
  go_ret
  have h5 := Int.emod_nonneg (i.tmod n + n) (show n ≠ 0 by omega)
  have h6 := Int.emod_lt_of_pos (i.tmod n + n) h0
  obtain ⟨m, hm⟩ := Int.eq_ofNat_of_zero_le h5
  exact ⟨m, ret_int hm, by omega, rfl⟩
end Go.Proofs.Ytbgjahgmkbbgjaa
