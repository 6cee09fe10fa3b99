/- A disk's functions as a law's walk calls them. -/
import Derived.Test.YtbgjahgmkbbgjaaDk8
import Derived.Test.YtbgjahgmkbbgjaaStr8
import Derived.Test.YtbgjahgmkbbgjaaDk2
namespace Go.Proofs.Ytbgjahgmkbbgjaa
open Go.RowKit

/-- A right disk of N bytes. -/
structure Wf (N : Nat) (D : DS) : Prop where
  le : N ≤ 65536
  dur : D.dur.length = N
  now : D.now = nowOf D.dur D.uns
  lie : Lie N D.uns
  pos : ∀ x ∈ D.uns, 0 < x.2.length
  few : D.uns.length ≤ 1000000

theorem nowOf_eq (b : List Nat) (l : List (Nat × List Nat)) : nowOf b l = cr (fun _ d => d.length) b l 0 := (cr_all _ _ _ _ (fun _ _ _ _ => Nat.le_refl _)).symm
theorem nowOf_len {b : List Nat} {l : List (Nat × List Nat)} (h : Lie b.length l) : (nowOf b l).length = b.length := by rw [nowOf_eq]; exact cr_len _ _ _ _ h
theorem nowOf_snoc (b : List Nat) (l : List (Nat × List Nat)) (a : Nat) (d : List Nat) : nowOf b (l ++ [(a, d)]) = laid (nowOf b l) a d := by simp [nowOf]
theorem Wf.nowlen {N : Nat} {D : DS} (h : Wf N D) : D.now.length = N := by rw [h.now, nowOf_len (by rw [h.dur]; exact h.lie), h.dur]
theorem Wf.sized {N : Nat} {D : DS} (h : Wf N D) : ∀ x ∈ D.uns, x.2.length ≤ 1000000 := fun x hx => by have := h.lie x hx; have := h.le; omega

/-- A disk in memory. -/
def Dsk (w : World) (p : Nat) (r : Nat → Nat) (N : Nat) (D : DS) : Prop := ∃ dv nv uv xs, IsD w p r D dv nv uv xs ∧ Wf N D

theorem Dsk.keep {w w' : World} {p : Nat} {r : Nat → Nat} {N : Nat} {D : DS} (h : Dsk w p r N D) {S : Nat → Prop} (hO : Only S w w') (hS : ∀ k, r k ≠ 0 → ¬ S k) : Dsk w' p r N D :=
  let ⟨dv, nv, uv, xs, h, hw⟩ := h
  ⟨dv, nv, uv, xs, h.keep hO hS, hw⟩
theorem Dsk.below {w w' : World} {p : Nat} {r : Nat → Nat} {N : Nat} {D : DS} (h : Dsk w p r N D) (hB : Below w.heap.size w w') : Dsk w' p r N D := h.keep (Below.only hB (fun _ => False)) (fun _ _ h => h)
theorem Dsk.lt {w : World} {p : Nat} {r : Nat → Nat} {N : Nat} {D : DS} (h : Dsk w p r N D) : ∀ k, r k ≠ 0 → k < w.heap.size := let ⟨_, _, _, _, h, _⟩ := h; h.lt
theorem Dsk.wf {w : World} {p : Nat} {r : Nat → Nat} {N : Nat} {D : DS} (h : Dsk w p r N D) : Wf N D := let ⟨_, _, _, _, _, hw⟩ := h; hw

/-- Noughts. -/
def blank (N : Nat) : DS := ⟨List.replicate N 0, List.replicate N 0, []⟩

theorem wf_blank {N : Nat} (h : N ≤ 65536) : Wf N (blank N) := ⟨h, by simp [blank], rfl, by simp [blank, Lie], by simp [blank], by simp [blank]⟩

theorem new_d (N : Nat) (hN : N ≤ 65536) (w : World) :
    Calls Try.prog 9 #[.int .i64 N] w fun e w' => ∃ p r, e = .returned (.tuple #[.pointer (some ⟨p, 0, none⟩), .int .i64 0]) ∧ Dsk w' p r N (blank N) ∧ Only (fun _ => False) w w' ∧ ∀ k, r k ≠ 0 → w.heap.size ≤ k :=
  (new_is N hN w).mono fun _ _ ⟨p, r, dv, nv, uv, xs, he, hD, hO, hr⟩ => ⟨p, r, he, ⟨dv, nv, uv, xs, hD, wf_blank hN⟩, hO, hr⟩

/-- A disk behind a write. -/
def wrote (N : Nat) (D : DS) (a : Int) (d : List Nat) : DS := if liesB N a d.length = true ∧ 0 < d.length then ⟨D.dur, laid D.now a.toNat d, D.uns ++ [(a.toNat, d)]⟩ else D
/-- What a write tells. -/
def wcode (N : Nat) (a : Int) (n : Nat) : Nat := if liesB N a n = true then 0 else 130

theorem wf_wrote {N : Nat} {D : DS} (h : Wf N D) (a : Int) (d : List Nat) (hf : D.uns.length + 1 ≤ 1000000) : Wf N (wrote N D a d) := by
  unfold wrote
  split
  · rename_i hl
    obtain ⟨i, k, ha, hk, hik⟩ := liesB_true hl.1
    subst ha
    have hk' : d.length = k := by omega
    refine ⟨h.le, h.dur, ?_, ?_, ?_, by simpa using hf⟩
    · show laid D.now (i : Int).toNat d = nowOf D.dur (D.uns ++ [((i : Int).toNat, d)])
      rw [nowOf_snoc, ← h.now]
    · intro x hx
      rcases List.mem_append.1 hx with hx | hx
      · exact h.lie x hx
      · simp at hx; subst hx; show i + d.length ≤ N; omega
    · intro x hx
      rcases List.mem_append.1 hx with hx | hx
      · exact h.pos x hx
      · simp at hx; subst hx; exact hl.2
  · exact h

theorem write_d (a : Int) (y : Value) (d : List Nat) {w : World} {p : Nat} {r : Nat → Nat} {N : Nat} {D : DS} (h : Dsk w p r N D) (hy : Holds8 w y d) (hyr : 0 < d.length → ∀ k, y.ownBlock = some k → r k = 0) (hu : D.uns.length + 1 ≤ 1000000) :
    Calls Try.prog 13 #[.pointer (some ⟨p, 0, none⟩), .int .i64 a, y] w fun e w' => e = .returned (.int .i64 (wcode N a d.length : Nat)) ∧
      ∃ r', Dsk w' p r' N (wrote N D a d) ∧ Only (fun k => r k ≠ 0) w w' ∧ ∀ k, r' k ≠ 0 → r k ≠ 0 ∨ w.heap.size ≤ k := by
  obtain ⟨dv, nv, uv, xs, hD, hw⟩ := h
  have hnl := hw.nowlen
  have hle := hw.le
  have hwf := wf_wrote hw a d hu
  unfold wcode
  cases hl : liesB N a d.length with
  | false =>
    obtain ⟨ao, cap, rfl, _⟩ := hy
    refine (write_off a ao d.length cap hD (by omega) (by rw [hnl]; exact hl)).mono ?_
    rintro e w' ⟨rfl, rfl⟩
    exact ⟨rfl, r, ⟨dv, nv, uv, xs, by unfold wrote; rw [if_neg (by simp [hl])]; exact hD, hwf⟩, Only.refl _ _, fun _ h => .inl h⟩
  | true =>
    obtain ⟨i, k, rfl, hk, hik⟩ := liesB_true hl
    have hk' : d.length = k := by omega
    by_cases h0 : 0 < d.length
    · refine (write_is i y d hD (by omega) hy (hyr h0) (by omega) h0 (by omega)).mono ?_
      rintro e w' ⟨rfl, r', uv', xs', hD', hO, hr⟩
      refine ⟨rfl, r', ⟨dv, nv, uv', xs', ?_, hwf⟩, hO, hr⟩
      unfold wrote
      rw [if_pos ⟨hl, h0⟩]
      exact hD'
    · have hd : d = [] := List.eq_nil_of_length_eq_zero (by omega)
      subst hd
      obtain ⟨ao, cap, rfl, _⟩ := hy
      refine (write_none i ao cap hD (by omega) (by rw [hnl]; exact hl)).mono ?_
      rintro e w' ⟨rfl, rfl⟩
      exact ⟨rfl, r, ⟨dv, nv, uv, xs, by unfold wrote; rw [if_neg (by simp)]; exact hD, hwf⟩, Only.refl _ _, fun _ h => .inl h⟩

/-- A disk that is synced. -/
def synced (b : List Nat) : DS := ⟨b, b, []⟩
theorem wf_synced {N : Nat} {b : List Nat} (hN : N ≤ 65536) (h : b.length = N) : Wf N (synced b) := ⟨hN, h, rfl, by simp [synced, Lie], by simp [synced], by simp [synced]⟩

theorem sync_d {w : World} {p : Nat} {r : Nat → Nat} {N : Nat} {D : DS} (h : Dsk w p r N D) :
    Calls Try.prog 10 #[.pointer (some ⟨p, 0, none⟩)] w fun e w' => e = .returned (.int .i64 0) ∧ Dsk w' p r N (synced D.now) ∧ Only (fun k => r k ≠ 0) w w' := by
  obtain ⟨dv, nv, uv, xs, hD, hw⟩ := h
  refine (sync_is hD (by rw [hw.nowlen, hw.dur])).mono ?_
  rintro e w' ⟨rfl, hD', hO⟩
  exact ⟨rfl, ⟨_, _, _, _, hD', wf_synced hw.le hw.nowlen⟩, hO⟩

/-- What a crash leaves. -/
def crashed (D : DS) (fs : List (Int × Int)) : List Nat := cr (am fs) D.dur D.uns 0
theorem crashed_len {N : Nat} {D : DS} (h : Wf N D) (fs : List (Int × Int)) : (crashed D fs).length = N := by
  unfold crashed
  rw [cr_len _ _ _ _ (by rw [h.dur]; exact h.lie), h.dur]

theorem crash_d (fv : Value) (fs : List (Int × Int)) {w : World} {p : Nat} {r : Nat → Nat} {N : Nat} {D : DS} (h : Dsk w p r N D) (hf : Fates w fv fs) (hfr : 0 < fs.length → ∀ k, fv.ownBlock = some k → r k = 0) (hfl : fs.length ≤ 1000000) :
    Calls Try.prog 11 #[.pointer (some ⟨p, 0, none⟩), fv] w fun e w' => e = .returned (.int .i64 D.uns.length) ∧ Dsk w' p r N (synced (crashed D fs)) ∧ Only (fun k => r k ≠ 0) w w' := by
  obtain ⟨dv, nv, uv, xs, hD, hw⟩ := h
  refine (crash_is hD fv fs hf hfr hw.few (by rw [hw.dur]; exact hw.le) (by rw [hw.nowlen, hw.dur]) (by rw [hw.dur]; exact hw.lie) hw.pos hfl).mono ?_
  rintro e w' ⟨rfl, hD', hO⟩
  exact ⟨rfl, ⟨_, _, _, _, hD', wf_synced hw.le (crashed_len hw fs)⟩, hO⟩

theorem read_d (i k : Nat) {w : World} {p : Nat} {r : Nat → Nat} {N : Nat} {D : DS} (h : Dsk w p r N D) (hl : i + k ≤ N) :
    Calls Try.prog 12 #[.pointer (some ⟨p, 0, none⟩), .int .i64 i, .int .i64 k] w fun e w' => ∃ v, e = .returned (.tuple #[v, .int .i64 0]) ∧ Own8 w' w.heap.size v ((D.now.drop i).take k) ∧ Below w.heap.size w w' := by
  obtain ⟨dv, nv, uv, xs, hD, hw⟩ := h
  have := hw.nowlen
  have := hw.le
  exact now_on i k hD (by omega) (by rw [hw.nowlen, hw.dur]) (by omega)

theorem durable_d (i k : Nat) {w : World} {p : Nat} {r : Nat → Nat} {N : Nat} {D : DS} (h : Dsk w p r N D) (hl : i + k ≤ N) :
    Calls Try.prog 15 #[.pointer (some ⟨p, 0, none⟩), .int .i64 i, .int .i64 k] w fun e w' => ∃ v, e = .returned (.tuple #[v, .int .i64 0]) ∧ Own8 w' w.heap.size v ((D.dur.drop i).take k) ∧ Below w.heap.size w w' := by
  obtain ⟨dv, nv, uv, xs, hD, hw⟩ := h
  have := hw.nowlen
  have := hw.le
  exact dur_on i k hD (by omega) (by rw [hw.nowlen, hw.dur]) (by omega)

theorem unsynced_d {w : World} {p : Nat} {r : Nat → Nat} {N : Nat} {D : DS} (h : Dsk w p r N D) :
    Calls Try.prog 16 #[.pointer (some ⟨p, 0, none⟩)] w fun e w' => ∃ v F ys, e = .returned v ∧ NewW w.heap.size w' F v ys D.uns ∧ Below w.heap.size w w' := by
  obtain ⟨dv, nv, uv, xs, hD, hw⟩ := h
  exact unsynced_is hD hw.few hw.sized

theorem copy_d {w : World} {p : Nat} {r : Nat → Nat} {N : Nat} {D : DS} (h : Dsk w p r N D) :
    Calls Try.prog 17 #[.pointer (some ⟨p, 0, none⟩)] w fun e w' => ∃ q r', e = .returned (.pointer (some ⟨q, 0, none⟩)) ∧ Dsk w' q r' N D ∧ Below w.heap.size w w' ∧ ∀ k, r' k ≠ 0 → w.heap.size ≤ k := by
  obtain ⟨dv, nv, uv, xs, hD, hw⟩ := h
  have := hw.le
  refine (copy_is hD hw.few hw.sized (by rw [hw.dur]; omega) (by rw [hw.nowlen]; omega)).mono ?_
  rintro e w' ⟨q, r', dv', nv', uv', xs', rfl, hD', hB, hr⟩
  exact ⟨q, r', rfl, ⟨dv', nv', uv', xs', hD', hw⟩, hB, hr⟩

/-- Fates of none. -/
theorem fates_nil (w : World) : Fates w (.slice none 0 0) [] := ⟨none, 0, rfl, fun h => absurd h (by simp)⟩

/-- A row that was just laid. -/
theorem holds_new {w : World} {g : Nat} {zs : List Nat} {C : Array Value} (hC : C.toList = u8s zs) (hg : w.heap[g]? = some (.cells C 5 (0, 0))) : Holds8 w (.slice (some ⟨g, 0, none⟩) zs.length zs.length) zs := by
  refine ⟨_, _, rfl, Nat.le_refl _, by simp, fun _ x hx => by injection hx with hx; subst hx; exact lt_of_obj hg, fun h0 => ⟨g, 0, rfl, fun j hj => ?_⟩⟩
  rw [Nat.zero_add, cell_of_block hg, ← u8s_get zs j hj, ← hC]
  simp
end Go.Proofs.Ytbgjahgmkbbgjaa
