/- Same, of disks and of the document's disks, walked. -/
import Derived.Test.YtbgjahgmkbbgjaaDr4
namespace Go.Proofs.Ytbgjahgmkbbgjaa
open Go.RowKit

/-- Are bytes the same, as strings? -/
def eqS (zs ys : List Nat) : Bool := (str8 zs).toList == (str8 ys).toList
theorem eqS_refl (zs : List Nat) : eqS zs zs = true := by unfold eqS; simp
/-- Are writes the same? -/
def eqL : List (Nat × List Nat) → List (Nat × List Nat) → Bool
  | [], [] => true
  | (a, d) :: l, (b, e) :: m => ((a : Int) == (b : Int)) && eqS d e && eqL l m
  | _, _ => false
def eqW (a b : Nat) (d e : List Nat) : Bool := ((a : Int) == (b : Int)) && eqS d e
theorem eqL_len : ∀ (L M : List (Nat × List Nat)), L.length ≠ M.length → eqL L M = false
  | [], [], h => absurd rfl h
  | [], _ :: _, _ => rfl
  | (_, _) :: _, [], _ => rfl
  | (_, _) :: l, (_, _) :: m, h => by
    have ih := eqL_len l m (fun e => h (by simp [e]))
    simp [eqL, ih]
theorem eqL_no : ∀ (L M : List (Nat × List Nat)) (i a b : Nat) (d e : List Nat), L[i]? = some (a, d) → M[i]? = some (b, e) → eqW a b d e = false → eqL L M = false
  | [], _, i, a, b, d, e, h, _, _ => by simp at h
  | _ :: _, [], i, a, b, d, e, _, h, _ => by simp at h
  | (a', d') :: l, (b', e') :: m, 0, a, b, d, e, h1, h2, h3 => by
    simp at h1 h2
    obtain ⟨rfl, rfl⟩ := h1
    obtain ⟨rfl, rfl⟩ := h2
    unfold eqW at h3
    simp [eqL, h3]
  | (a', d') :: l, (b', e') :: m, i + 1, a, b, d, e, h1, h2, h3 => by
    have ih := eqL_no l m i a b d e (by simpa using h1) (by simpa using h2) h3
    simp [eqL, ih]
theorem eqL_yes : ∀ (L M : List (Nat × List Nat)), L.length = M.length → (∀ (i a b : Nat) (d e : List Nat), L[i]? = some (a, d) → M[i]? = some (b, e) → eqW a b d e = true) → eqL L M = true
  | [], [], _, _ => rfl
  | [], _ :: _, h, _ => by simp at h
  | (_, _) :: _, [], h, _ => by simp at h
  | (a, d) :: l, (b, e) :: m, h, hh => by
    have ih := eqL_yes l m (by simpa using h) (fun i a b d e h1 h2 => hh (i + 1) a b d e (by simpa using h1) (by simpa using h2))
    have h0 := hh 0 a b d e rfl rfl
    unfold eqW at h0
    simp only [eqL, ih, h0, Bool.and_self]

/-- A row of writes, as it is read. -/
def WR (w : World) (v : Value) (L : List (Nat × List Nat)) : Prop :=
  ∃ ao cap, v = .slice ao L.length cap ∧ ∀ i (a : Nat) d, L[i]? = some (a, d) → ∃ g ya yc, ao = some ⟨g, 0, none⟩ ∧ g < w.heap.size ∧ w.cell? ⟨g, i * 2, none⟩ = some (.int .i64 a) ∧ w.cell? ⟨g, i * 2 + 1, none⟩ = some (.slice ya d.length yc) ∧ Holds8 w (.slice ya d.length yc) d
theorem WR.below {w w' : World} {v : Value} {L : List (Nat × List Nat)} (h : WR w v L) (hB : Below w.heap.size w w') : WR w' v L := by
  obtain ⟨ao, cap, e, h⟩ := h
  refine ⟨ao, cap, e, fun i a d hi => ?_⟩
  obtain ⟨g, ya, yc, e1, hg, c0, c1, hy⟩ := h i a d hi
  exact ⟨g, ya, yc, e1, Nat.lt_of_lt_of_le hg hB.size, (hB.cell (p := ⟨g, i * 2, none⟩) hg).trans c0, (hB.cell (p := ⟨g, i * 2 + 1, none⟩) hg).trans c1, hy.below hB⟩
theorem IsD.wr {w : World} {p : Nat} {r : Nat → Nat} {D : DS} {dv nv uv : Value} {xs : List Value} (h : IsD w p r D dv nv uv xs) : WR w uv D.uns := by
  obtain ⟨ao, cap, e⟩ := own_shape h.uns
  refine ⟨ao, cap, e, fun i a d hi => ?_⟩
  have hil := (List.getElem?_eq_some_iff.1 hi).1
  obtain ⟨g, cp, a', d', y, e1, hg, hx, c0, c1, hy, _⟩ := h.write_at i hil
  rw [hi] at hx
  injection hx with hx
  injection hx with h1 h2
  subst h1 h2
  rw [e] at e1
  injection e1 with e1 _ _
  obtain ⟨ya, yc, ey⟩ := own_shape hy
  subst ey
  exact ⟨g, ya, yc, e1, hg, c0, c1, hy.holds⟩

theorem equal_is (v u : Value) (zs ys : List Nat) (w : World) (hv : Holds8 w v zs) (hu : Holds8 w u ys) :
    Calls Try.prog 30 #[v, u] w fun e w' => e = .returned (.bool (eqS zs ys)) ∧ w' = w := by
  have h1 := conv8 hv
  have h2 := conv8 hu
  obtain ⟨_, _, rfl, _⟩ := hv
  obtain ⟨_, _, rfl, _⟩ := hu
  unfold eqS
  generalize str8 zs = s at *
  generalize str8 ys = t at *
  go_enter Try.func30, Try.ntmps30
  go_wp2_with fail
  go_ret
  exact ⟨rfl, rfl⟩

theorem dsame_is (a b : Nat) (ya za : Option Addr) (yc zc : Nat) (d e : List Nat) (w : World) (hy : Holds8 w (.slice ya d.length yc) d) (hz : Holds8 w (.slice za e.length zc) e) :
    Calls Try.prog 32 #[.agg #[.int .i64 a, .slice ya d.length yc], .agg #[.int .i64 b, .slice za e.length zc]] w fun x w' => x = .returned (.bool (eqW a b d e)) ∧ Below w.heap.size w w' := by
  have hB : Below w.heap.size w ((w.alloc (.cells #[.int .i64 a, .slice ya d.length yc] 46)).alloc (.cells #[.int .i64 b, .slice za e.length zc] 46)) := ((Below.refl _ _).alloc (Nat.le_refl _) _).alloc (by simp) _
  have hE := equal_is _ _ d e _ (hy.below hB) (hz.below hB)
  have HE := Lib.hid hE
  have HB := Lib.hid hB
  unfold eqW
  clear hB hE hy hz
  generalize eqS d e = bb at *
  generalize d.length = dn at *
  generalize e.length = en at *
  by_cases hab : a = b
  · subst hab
    have e1 : ((a : Int) == (a : Int)) = true := by simp
    rw [e1]
    clear e1
    go_enter Try.func32, Try.ntmps32
    go_wp2_with fail
    refine HE.out.mono ?_
    rintro x w1 ⟨rfl, rfl⟩
    go_wp2_with fail
    go_ret
    exact ⟨by simp, HB.out⟩
  · have e1 : ((a : Int) == (b : Int)) = false := by simp; omega
    rw [e1]
    go_enter Try.func32, Try.ntmps32
    go_wp2_with fail
    go_ret
    exact ⟨by simp, HB.out⟩

/-- Ahead of each round of EqualFunc. -/
def ERel (w : World) (L M : List (Nat × List Nat)) (i : Value) (wr : World) : Prop :=
  ∃ k : Nat, i = .int .i64 k ∧ k ≤ L.length ∧ Below w.heap.size w wr ∧ ∀ (j a b : Nat) (d e : List Nat), j < k → L[j]? = some (a, d) → M[j]? = some (b, e) → eqW a b d e = true

set_option maxRecDepth 100000 in
set_option maxHeartbeats 2000000 in
theorem eqfunc_is (v u : Value) (L M : List (Nat × List Nat)) (w : World) (hv : WR w v L) (hu : WR w u M) (hl : L.length ≤ 1000000) :
    Calls Try.prog 31 #[v, u, .func (.func 32) #[] #[]] w fun x w' => x = .returned (.bool (eqL L M)) ∧ Below w.heap.size w w' := by
  have HV := Lib.hid hv
  have HU := Lib.hid hu
  obtain ⟨va, vc, rfl, hvx⟩ := hv
  obtain ⟨ua, uc, rfl, hux⟩ := hu
  clear hvx hux
  by_cases hn : L.length = M.length
  · go_enter Try.func31, Try.ntmps31
    have HN := Lib.hid hn
    rw [← hn]
    clear hn
    go_wp2_with fail
    go_loopw [17] (ERel w L M) (fun i _ => L.length - (intOf i).toNat)
    case atStart => exact ⟨0, rfl, Nat.zero_le _, Below.refl _ _, fun j a b d e h => absurd h (by omega)⟩
    case round =>
      obtain ⟨k, rfl, hk, hB, hall⟩ := hrel
      have HAL := Lib.hid hall
      have HB := Lib.hid hB
      clear hall
      by_cases hlt : k < L.length
      · obtain ⟨⟨a, d⟩, hx⟩ : ∃ x, L[k]? = some x := ⟨_, List.getElem?_eq_getElem hlt⟩
        obtain ⟨⟨b, e⟩, hz⟩ : ∃ x, M[k]? = some x := ⟨_, List.getElem?_eq_getElem (by rw [← HN.out]; exact hlt)⟩
        obtain ⟨vo, vc', ev, hvx⟩ := HV.out.below hB
        obtain ⟨uo, uc', eu, hux⟩ := HU.out.below hB
        injection ev with ev ev2 ev3
        injection eu with eu eu2 eu3
        subst ev eu ev3 eu3
        clear ev2 eu2
        obtain ⟨vg, ya, yc, rfl, hvg, c0, c1, hy⟩ := hvx k a d hx
        obtain ⟨ug, za, zc, rfl, hug, d0, d1, hw⟩ := hux k b e hz
        have hBa : Below wr.heap.size wr (wr.alloc (.cells #[.int .i64 a, .slice ya d.length yc] 46)) := (Below.refl _ _).alloc (Nat.le_refl _) _
        have hBb : Below wr.heap.size wr ((wr.alloc (.cells #[.int .i64 a, .slice ya d.length yc] 46)).alloc (.cells #[.int .i64 b, .slice za e.length zc] 46)) := hBa.alloc (by simp) _
        have d0' := (hBa.cell (p := ⟨ug, k * 2, none⟩) hug).trans d0
        have d1' := (hBa.cell (p := ⟨ug, k * 2 + 1, none⟩) hug).trans d1
        have HDS := Lib.hid (dsame_is a b ya za yc zc d e _ (hy.below hBb) (hw.below hBb))
        have HBB := Lib.hid (HB.out.trans (hBb.mono HB.out.size))
        have HX := Lib.hid hx
        have HZ := Lib.hid hz
        have j0 : (0 : Int) ≤ (k : Int) := by omega
        have j1 : (k : Int) < (L.length : Int) := by omega
        clear hBa hBb d0 d1 hy hw hvx hux hx hz hB
        cases hq : eqW a b d e with
        | false =>
          have HE := Lib.hid (eqL_no L M k a b d e HX.out HZ.out hq)
          rw [hq] at HDS
          clear hq
          go_wp2_with fail
          refine HDS.out.mono ?_
          rintro x w3 ⟨rfl, hB3⟩
          have HB3 := Lib.hid (HBB.out.trans (hB3.mono HBB.out.size))
          clear hB3
          go_wp2_with fail
          go_ret
          exact ⟨ret_bool HE.out.symm, HB3.out⟩
        | true =>
          rw [hq] at HDS
          have HQ := Lib.hid hq
          clear hq
          go_wp2_with fail
          refine HDS.out.mono ?_
          rintro x w3 ⟨rfl, hB3⟩
          have HB3 := Lib.hid (HBB.out.trans (hB3.mono HBB.out.size))
          clear hB3
          have HREL : Hid (ERel w L M (.int .i64 (k + 1 : Nat)) w3) := by
            refine ⟨k + 1, rfl, by omega, HB3.out, fun j a' b' d' e' hj h1 h2 => ?_⟩
            by_cases hjk : j < k
            · exact HAL.out j a' b' d' e' hjk h1 h2
            · obtain rfl : j = k := by omega
              rw [HX.out] at h1
              rw [HZ.out] at h2
              injection h1 with h1
              injection h2 with h2
              injection h1 with h3 h4
              injection h2 with h5 h6
              subst h3 h4 h5 h6
              exact HQ.out
          clear HB3 HQ
          go_wp2_with fail
          go_roundw
          case rel => first | exact HREL.out | ((repeat apply Exists.intro); exact ⟨HREL.out, rfl⟩)
          case measure => simp [intOf]; omega
      · have he := eqL_yes L M HN.out (fun j a b d e h1 h2 => HAL.out j a b d e (by have := (List.getElem?_eq_some_iff.1 h1).1; omega) h1 h2)
        have HE := Lib.hid he
        clear he hB
        go_wp2_with fail
        go_ret
        exact ⟨ret_bool HE.out.symm, HB.out⟩
  · rw [eqL_len L M hn]
    have hn' : ((L.length : Int) != (M.length : Int)) = true := by simp; omega
    go_enter Try.func31, Try.ntmps31
    go_wp2_with fail
    go_ret
    exact ⟨rfl, Below.refl _ _⟩

/-- Are disks the same? -/
def sameB (D E : DS) : Bool := eqS D.dur E.dur && eqL D.uns E.uns
theorem eqL_refl : ∀ (L : List (Nat × List Nat)), eqL L L = true
  | [] => rfl
  | (a, d) :: l => by
    have ih := eqL_refl l
    simp [eqL, ih, eqS_refl]
theorem sameB_refl (D : DS) : sameB D D = true := by unfold sameB; rw [eqS_refl, eqL_refl]; rfl

set_option maxRecDepth 100000 in
set_option maxHeartbeats 1000000 in
theorem same_pp {w : World} {p q : Nat} {r s : Nat → Nat} {N M : Nat} {D E : DS} (h : Dsk w p r N D) (k : Dsk w q s M E) :
    Calls Try.prog 19 #[.pointer (some ⟨p, 0, none⟩), .pointer (some ⟨q, 0, none⟩)] w fun x w' => x = .returned (.bool (sameB D E)) ∧ Below w.heap.size w w' := by
  obtain ⟨dv, nv, uv, xs, h, hw⟩ := h
  obtain ⟨dv', nv', uv', xs', k, _⟩ := k
  have hfew := hw.few
  have hp := lt_of_obj h.blk
  have hq := lt_of_obj k.blk
  have k0 : ∀ z : Wld (fun x => Below w.heap.size w x), z.w.cell? ⟨p, 0, none⟩ = some dv := fun z => (z.ok.cell (p := ⟨p, 0, none⟩) hp).trans (cell_of_block h.blk 0)
  have k2 : ∀ z : Wld (fun x => Below w.heap.size w x), z.w.cell? ⟨p, 2, none⟩ = some uv := fun z => (z.ok.cell (p := ⟨p, 2, none⟩) hp).trans (cell_of_block h.blk 2)
  have l0 : ∀ z : Wld (fun x => Below w.heap.size w x), z.w.cell? ⟨q, 0, none⟩ = some dv' := fun z => (z.ok.cell (p := ⟨q, 0, none⟩) hq).trans (cell_of_block k.blk 0)
  have l2 : ∀ z : Wld (fun x => Below w.heap.size w x), z.w.cell? ⟨q, 2, none⟩ = some uv' := fun z => (z.ok.cell (p := ⟨q, 2, none⟩) hq).trans (cell_of_block k.blk 2)
  have HEQ : Hid (∀ z : Wld (fun x => Below w.heap.size w x), Calls Try.prog 30 #[dv, dv'] z.w fun e w' => e = .returned (.bool (eqS D.dur E.dur)) ∧ w' = z.w) := fun z => equal_is _ _ _ _ _ (h.dur.holds.below z.ok) (k.dur.holds.below z.ok)
  have HEF : Hid (∀ z : Wld (fun x => Below w.heap.size w x), Calls Try.prog 31 #[uv, uv', .func (.func 32) #[] #[]] z.w fun x w' => x = .returned (.bool (eqL D.uns E.uns)) ∧ Below z.w.heap.size z.w w') := fun z => eqfunc_is _ _ _ _ _ (h.wr.below z.ok) (k.wr.below z.ok) hfew
  obtain ⟨da, dc, rfl⟩ := own_shape h.dur
  obtain ⟨ea, ec, rfl⟩ := own_shape k.dur
  obtain ⟨ua, uc, rfl⟩ := own_shape h.uns
  obtain ⟨va, vc, rfl⟩ := own_shape k.uns
  haveI hne : Nonempty (Wld (fun x => Below w.heap.size w x)) := ⟨⟨w, Below.refl _ _⟩⟩
  unfold sameB
  clear h k hw hp hq
  generalize eqL D.uns E.uns = bl at *
  cases hs : eqS D.dur E.dur with
  | false =>
    rw [hs] at HEQ
    clear hs
    go_enter Try.func19, Try.ntmps19
    go_wp2_with fail
    refine region_class (fun x => Below w.heap.size w x) (by kernel_rfl) (by kernel_rfl) (Below.refl _ _).drew ?_
    repeat (go_big_quiet_step ((rename_i z; first
      | (go_at_call 30; exact (HEQ.out z).mono fun e w' ⟨he, hw⟩ => ⟨he, z, hw⟩))))
    refine wpQuiet_nil ?_
    intro w3 hB3
    clear k0 k2 l0 l2 hne HEQ HEF
    go_wp2_with fail
    go_ret
    exact ⟨rfl, hB3⟩
  | true =>
    rw [hs] at HEQ
    clear hs
    go_enter Try.func19, Try.ntmps19
    go_wp2_with fail
    refine region_class (fun x => Below w.heap.size w x) (by kernel_rfl) (by kernel_rfl) (Below.refl _ _).drew ?_
    repeat (go_big_quiet_step ((rename_i z; first
      | (go_at_call 30; exact (HEQ.out z).mono fun e w' ⟨he, hw⟩ => ⟨he, z, hw⟩)
      | (go_at_call 31; exact (HEF.out z).mono fun e w' ⟨he, hb⟩ => ⟨he, ⟨w', z.ok.trans (hb.mono z.ok.size)⟩, rfl⟩))))
    refine wpQuiet_nil ?_
    intro w3 hB3
    clear k0 k2 l0 l2 hne HEQ HEF
    go_wp2_with fail
    go_ret
    exact ⟨by simp, hB3⟩
end Go.Proofs.Ytbgjahgmkbbgjaa
