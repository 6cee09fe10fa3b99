/- Read and Durable, walked. -/
import Derived.Test.YtbgjahgmkbbgjaaDk1
namespace Go.Proofs.Ytbgjahgmkbbgjaa
open Go.RowKit

theorem liesB_true {N : Nat} {a n : Int} (h : liesB N a n = true) : ∃ i k : Nat, a = i ∧ n = k ∧ i + k ≤ N := by
  simp [liesB] at h
  exact ⟨a.toNat, n.toNat, by omega, by omega, by omega⟩

/-- A part of an own row. -/
theorem Own8.part {w : World} {base : Nat} {v : Value} {zs : List Nat} (h : Own8 w base v zs) (i k : Nat) (hik : i + k ≤ zs.length) :
    ∃ b c, v = .slice b zs.length c ∧ zs.length ≤ c ∧ c ≤ maxLen ∧ (c = i → Holds8 w (.slice b k 0) ((zs.drop i).take k)) ∧ Holds8 w (.slice (Option.map (fun x => x.add i) b) k (c - i)) ((zs.drop i).take k) := by
  have hl : ((zs.drop i).take k).length = k := by simp; omega
  rcases h.2 with ⟨hv, h0⟩ | ⟨g, cap, cur, hv, hg, hh, hnc, hcm, hcs, hx⟩
  · refine ⟨none, 0, by rw [hv, h0], by omega, by simp, fun _ => ⟨none, 0, by rw [hl], by omega, by simp, fun _ => by simp, fun h => by omega⟩, ⟨none, 0 - i, by rw [hl]; rfl, by omega, by simp, fun _ => by simp, fun h => by omega⟩⟩
  · refine ⟨_, cap, hv, hnc, hcm, fun hc => ⟨_, 0, by rw [hl], by omega, by simp, fun _ x hx => by injection hx with hx; subst hx; exact lt_of_obj hh, fun h => by omega⟩, ?_⟩
    refine ⟨_, cap - i, by rw [hl], by omega, by simp, fun _ x hx => by injection hx with hx; subst hx; simpa [Addr.add_lit] using lt_of_obj hh, fun h0 => ⟨g, i, by simp [Addr.add_lit], fun j hj => ?_⟩⟩
    have hj2 : i + j < zs.length := by omega
    refine (cell_of_block hh _).trans ?_
    have e := u8s_get zs (i + j) hj2
    rw [← hx] at e
    have e2 : ((zs.drop i).take k).getD j 0 = zs.getD (i + j) 0 := by
      simp [List.getD, List.getElem?_take, show j < k by omega]
    rw [e2, ← e]
    simp [hj2]

theorem read_nil (f : Value) (a n : Int) (w : World) :
    Calls Try.prog 24 #[.pointer none, f, .int .i64 a, .int .i64 n] w fun e w' => e = .returned (.tuple #[.slice none 0 0, .int .i64 1]) ∧ w' = w := by
  go_enter Try.func24, Try.ntmps24
  go_wp2_with fail
  go_ret2
  exact ⟨rfl, rfl⟩

theorem reads_off (a n : Int) {w : World} {p : Nat} {r : Nat → Nat} {D : DS} {dv nv uv : Value} {xs : List Value} (h : IsD w p r D dv nv uv xs) (hN : D.now.length ≤ 65536) (hl : liesB D.now.length a n = false) (f : Value) :
    Calls Try.prog 24 #[.pointer (some ⟨p, 0, none⟩), f, .int .i64 a, .int .i64 n] w fun e w' => e = .returned (.tuple #[.slice none 0 0, .int .i64 130]) ∧ w' = w := by
  have hs := lies_is a n h hN
  rw [hl] at hs
  clear h
  go_enter Try.func24, Try.ntmps24
  go_wp2_with (first | (go_at_call 26; refine hs.mono ?_; rintro e w' ⟨rfl, rfl⟩))
  go_ret2
  exact ⟨rfl, rfl⟩

theorem reads_now (i k : Nat) {w : World} {p : Nat} {r : Nat → Nat} {D : DS} {dv nv uv : Value} {xs : List Value} (h : IsD w p r D dv nv uv xs) (hN : D.now.length ≤ 65536) (hsame : D.dur.length = D.now.length) (hl : i + k ≤ D.now.length) :
    Calls Try.prog 24 #[.pointer (some ⟨p, 0, none⟩), .func (.func 25) #[] #[], .int .i64 i, .int .i64 k] w fun e w' => ∃ v, e = .returned (.tuple #[v, .int .i64 0]) ∧
      Own8 w' w.heap.size v ((D.now.drop i).take k) ∧ Below w.heap.size w w' := by
  have hs := lies_is i k h hN
  rw [show liesB D.now.length i k = true by simp [liesB]; omega] at hs
  have hn := now_is h
  obtain ⟨b, c, hv, hc, hcm, hb1, hb2⟩ := h.now.part i k (by omega)
  clear h
  generalize hz : (D.now.drop i).take k = zs at *
  have hzk : zs.length = k := by rw [← hz]; simp; omega
  clear hz
  have hl2 : i + k ≤ D.now.length := by omega
  have hN2 : D.now.length ≤ 65536 := by omega
  generalize D.now.length = N at *
  rw [hv] at hn
  go_enter Try.func24, Try.ntmps24
  go_wp2_with fail
  refine hs.mono ?_
  rintro e w1 ⟨rfl, rfl⟩
  go_wp2_with fail
  refine hn.mono ?_
  rintro e w1 ⟨rfl, rfl⟩
  have H1 := Lib.hid hb1
  have H2 := Lib.hid hb2
  clear hb1 hb2 hs hn
  go_wp2_with fail
  · refine (clone_any _ zs _ (H1.out (by omega)) (by omega)).mono ?_
    rintro e w' ⟨v, rfl, ho, hB⟩
    go_wp2_with fail
    go_ret2
    exact ⟨_, rfl, ho, hB⟩
  · refine (clone_any _ zs _ H2.out (by omega)).mono ?_
    rintro e w' ⟨v, rfl, ho, hB⟩
    go_wp2_with fail
    go_ret2
    exact ⟨_, rfl, ho, hB⟩

theorem now_on (i k : Nat) {w : World} {p : Nat} {r : Nat → Nat} {D : DS} {dv nv uv : Value} {xs : List Value} (h : IsD w p r D dv nv uv xs) (hN : D.now.length ≤ 65536) (hsame : D.dur.length = D.now.length) (hl : i + k ≤ D.now.length) :
    Calls Try.prog 12 #[.pointer (some ⟨p, 0, none⟩), .int .i64 i, .int .i64 k] w fun e w' => ∃ v, e = .returned (.tuple #[v, .int .i64 0]) ∧
      Own8 w' w.heap.size v ((D.now.drop i).take k) ∧ Below w.heap.size w w' := by
  have hr := reads_now i k h hN hsame hl
  clear h
  go_enter Try.func12, Try.ntmps12
  go_wp2_with fail
  refine hr.mono ?_
  rintro e w' ⟨v, rfl, ho, hB⟩
  go_wp2_with fail
  go_ret2
  exact ⟨_, rfl, ho, hB⟩

theorem now_off (a n : Int) {w : World} {p : Nat} {r : Nat → Nat} {D : DS} {dv nv uv : Value} {xs : List Value} (h : IsD w p r D dv nv uv xs) (hN : D.now.length ≤ 65536) (hl : liesB D.now.length a n = false) :
    Calls Try.prog 12 #[.pointer (some ⟨p, 0, none⟩), .int .i64 a, .int .i64 n] w fun e w' => e = .returned (.tuple #[.slice none 0 0, .int .i64 130]) ∧ w' = w := by
  have hr := fun f => reads_off a n h hN hl f
  clear h
  go_enter Try.func12, Try.ntmps12
  go_wp2_with fail
  refine (hr _).mono ?_
  rintro e w' ⟨rfl, rfl⟩
  go_wp2_with fail
  go_ret2
  exact ⟨rfl, rfl⟩

theorem now_nil (a n : Int) (w : World) :
    Calls Try.prog 12 #[.pointer none, .int .i64 a, .int .i64 n] w fun e w' => e = .returned (.tuple #[.slice none 0 0, .int .i64 1]) ∧ w' = w := by
  go_enter Try.func12, Try.ntmps12
  go_wp2_with fail
  refine (read_nil _ _ _ _).mono ?_
  rintro e w' ⟨rfl, rfl⟩
  go_wp2_with fail
  go_ret2
  exact ⟨rfl, rfl⟩

theorem reads_dur (i k : Nat) {w : World} {p : Nat} {r : Nat → Nat} {D : DS} {dv nv uv : Value} {xs : List Value} (h : IsD w p r D dv nv uv xs) (hN : D.now.length ≤ 65536) (hsame : D.dur.length = D.now.length) (hl : i + k ≤ D.now.length) :
    Calls Try.prog 24 #[.pointer (some ⟨p, 0, none⟩), .func (.func 28) #[] #[], .int .i64 i, .int .i64 k] w fun e w' => ∃ v, e = .returned (.tuple #[v, .int .i64 0]) ∧
      Own8 w' w.heap.size v ((D.dur.drop i).take k) ∧ Below w.heap.size w w' := by
  have hs := lies_is i k h hN
  rw [show liesB D.now.length i k = true by simp [liesB]; omega] at hs
  have hn := dur_is h
  obtain ⟨b, c, hv, hc, hcm, hb1, hb2⟩ := h.dur.part i k (by omega)
  clear h
  generalize hz : (D.dur.drop i).take k = zs at *
  have hzk : zs.length = k := by rw [← hz]; simp; omega
  clear hz
  have hl2 : i + k ≤ D.dur.length := by omega
  have hN2 : D.dur.length ≤ 65536 := by omega
  generalize D.dur.length = N at *
  rw [hv] at hn
  go_enter Try.func24, Try.ntmps24
  go_wp2_with fail
  refine hs.mono ?_
  rintro e w1 ⟨rfl, rfl⟩
  go_wp2_with fail
  refine hn.mono ?_
  rintro e w1 ⟨rfl, rfl⟩
  have H1 := Lib.hid hb1
  have H2 := Lib.hid hb2
  clear hb1 hb2 hs hn
  go_wp2_with fail
  · refine (clone_any _ zs _ (H1.out (by omega)) (by omega)).mono ?_
    rintro e w' ⟨v, rfl, ho, hB⟩
    go_wp2_with fail
    go_ret2
    exact ⟨_, rfl, ho, hB⟩
  · refine (clone_any _ zs _ H2.out (by omega)).mono ?_
    rintro e w' ⟨v, rfl, ho, hB⟩
    go_wp2_with fail
    go_ret2
    exact ⟨_, rfl, ho, hB⟩

theorem dur_on (i k : Nat) {w : World} {p : Nat} {r : Nat → Nat} {D : DS} {dv nv uv : Value} {xs : List Value} (h : IsD w p r D dv nv uv xs) (hN : D.now.length ≤ 65536) (hsame : D.dur.length = D.now.length) (hl : i + k ≤ D.now.length) :
    Calls Try.prog 15 #[.pointer (some ⟨p, 0, none⟩), .int .i64 i, .int .i64 k] w fun e w' => ∃ v, e = .returned (.tuple #[v, .int .i64 0]) ∧
      Own8 w' w.heap.size v ((D.dur.drop i).take k) ∧ Below w.heap.size w w' := by
  have hr := reads_dur i k h hN hsame hl
  clear h
  go_enter Try.func15, Try.ntmps15
  go_wp2_with fail
  refine hr.mono ?_
  rintro e w' ⟨v, rfl, ho, hB⟩
  go_wp2_with fail
  go_ret2
  exact ⟨_, rfl, ho, hB⟩

theorem dur_off (a n : Int) {w : World} {p : Nat} {r : Nat → Nat} {D : DS} {dv nv uv : Value} {xs : List Value} (h : IsD w p r D dv nv uv xs) (hN : D.now.length ≤ 65536) (hl : liesB D.now.length a n = false) :
    Calls Try.prog 15 #[.pointer (some ⟨p, 0, none⟩), .int .i64 a, .int .i64 n] w fun e w' => e = .returned (.tuple #[.slice none 0 0, .int .i64 130]) ∧ w' = w := by
  have hr := fun f => reads_off a n h hN hl f
  clear h
  go_enter Try.func15, Try.ntmps15
  go_wp2_with fail
  refine (hr _).mono ?_
  rintro e w' ⟨rfl, rfl⟩
  go_wp2_with fail
  go_ret2
  exact ⟨rfl, rfl⟩

theorem dur_nil (a n : Int) (w : World) :
    Calls Try.prog 15 #[.pointer none, .int .i64 a, .int .i64 n] w fun e w' => e = .returned (.tuple #[.slice none 0 0, .int .i64 1]) ∧ w' = w := by
  go_enter Try.func15, Try.ntmps15
  go_wp2_with fail
  refine (read_nil _ _ _ _).mono ?_
  rintro e w' ⟨rfl, rfl⟩
  go_wp2_with fail
  go_ret2
  exact ⟨rfl, rfl⟩

end Go.Proofs.Ytbgjahgmkbbgjaa
