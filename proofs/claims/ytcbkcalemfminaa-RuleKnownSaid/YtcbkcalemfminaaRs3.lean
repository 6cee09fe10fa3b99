/- The document's New, Which, Class; two rows of numbers that are the same: walked. -/
import Derived.Test.YtcbkcalemfminaaRs2
namespace Go.Proofs.Ytcbkcalemfminaa
open Go.RowKit
attribute [local go_sem ↓] load_ad load_pf load_ru load_ky load_bs load_ra load_rp load_rr load_rk build_ra build_rp build_rr build_rk store_rp store_rr store_rk rows_rr

/-- The code that New tells. -/
def newCode (deny : Bool) (cls : Int) (l : List Ru) : Int := if 64 < l.length then 3 else if (!(others deny cls).right || l.any fun r => !r.right) = true then 2 else 0
theorem others_right (deny : Bool) (cls : Int) : (others deny cls).right = (deny || (decide (0 ≤ cls) && decide (cls < 8))) := by
  have h : pfBad 0 Pf.zero = false := by decide +kernel
  have h2 : bad1 0 (-1) = false := by decide
  unfold Ru.right others
  cases deny
  · simp [h, h2]
  · simp [h, h2]
def NwRel (W : World) (l : List Ru) (i : Value) (w : World) : Prop := ∃ k : Nat, i = .int .i64 k ∧ k ≤ l.length ∧ Below W.heap.size W w ∧ ∀ j s, j < k → l[j]? = some s → s.right = true
set_option maxRecDepth 100000 in
theorem rnew_is (deny : Bool) (cls : Int) {w : World} {v : Value} {l : List Ru} (hl : Rules w v l) (hlen : l.length ≤ 1000000) :
    Calls Try.prog 34 #[.bool deny, .int .i64 cls, v] w fun e w' => e = .returned (.int .i64 (newCode deny cls l)) ∧ Below w.heap.size w w' := by
  obtain ⟨la, lc, rfl, _⟩ := id hl
  have HL := Lib.hid hl
  clear hl
  by_cases h64 : 64 < l.length
  · have HN : Hid (newCode deny cls l = 3) := if_pos h64
    have h64i : (64 : Int) < (l.length : Int) := by omega
    go_enter Try.func34, Try.ntmps34
    go_wp2_with fail
    go_ret
    exact ⟨by rw [HN.out]; rfl, Below.refl _ _⟩
  · have HN : Hid (newCode deny cls l = if (!(deny || (decide (0 ≤ cls) && decide (cls < 8))) || l.any fun r => !r.right) = true then 2 else 0) := by show _ = _; unfold newCode; rw [if_neg h64, others_right]
    have h64i : ¬ (64 : Int) < (l.length : Int) := by omega
    go_enter Try.func34, Try.ntmps34
    go_wp2_with fail
    go_loopw [7] (NwRel w l) (fun i _ => l.length - (intOf i).toNat)
    case atStart => exact ⟨0, rfl, Nat.zero_le _, Below.refl _ _, fun j s hj => by omega⟩
    case round =>
      obtain ⟨k, rfl, hk, hB, hpk⟩ := hrel
      by_cases hlt : k < l.length
      · obtain ⟨r, hrk⟩ : ∃ r, l[k]? = some r := ⟨_, List.getElem?_eq_getElem hlt⟩
        obtain ⟨_, _, e1, _, hrw⟩ := HL.out.below hB
        injection e1 with e1 _ e2
        subst e1
        subst e2
        obtain ⟨rb, ro, rfl, hrb, hAr⟩ := hrw (by omega)
        obtain ⟨hrok, hrr⟩ := hAr k r hrk
        have lR := row_rr hrok hrr
        have hki : (k : Int) < (l.length : Int) := by omega
        have HS := Lib.hid (And.intro hB (And.intro hpk hrk))
        clear hB hpk hrk hAr hrr
        go_wp2_with fail
        refine (r9right_is hrok _).mono ?_
        rintro e w2 ⟨rfl, hB2⟩
        have HB2 := Lib.hid (HS.out.1.trans (hB2.mono HS.out.1.size))
        clear hB2 lR
        cases hR : r.right with
        | false =>
          have HF : Hid (newCode deny cls l = 2) := by
            show _ = _
            rw [HN.out, show (l.any fun r => !r.right) = true from List.any_eq_true.2 ⟨r, List.mem_of_getElem? HS.out.2.2, by rw [hR]; rfl⟩]
            simp
          clear hR
          go_wp2_with fail
          go_ret
          exact ⟨by rw [HF.out]; rfl, HB2.out⟩
        | true =>
          have HM : Hid (NwRel w l (.int .i64 (k + 1 : Nat)) w2) := ⟨k + 1, rfl, hlt, HB2.out, fun j s hj hs => by
            rcases Nat.lt_or_ge j k with h | h
            · exact HS.out.2.1 j s h hs
            · rw [show j = k by omega, HS.out.2.2] at hs
              injection hs with hs
              rw [← hs]; exact hR⟩
          clear hR
          go_wp2_with fail
          go_roundw
          case rel => exact HM.out
          case measure => simp [intOf]; omega
      · obtain rfl : k = l.length := by omega
        have HB2 := Lib.hid hB
        have hany : (l.any fun r => !r.right) = false := List.any_eq_false.2 (fun r hr => by
          obtain ⟨j, hj⟩ := List.mem_iff_getElem?.1 hr
          rw [hpk j r (List.getElem?_eq_some_iff.1 hj).1 hj]
          decide)
        have HF : Hid (newCode deny cls l = if (!(deny || (decide (0 ≤ cls) && decide (cls < 8)))) = true then 2 else 0) := by show _ = _; rw [HN.out, hany, Bool.or_false]
        clear hB hpk hany
        have hc : cls < 0 ∨ (¬ cls < 0 ∧ 7 < cls) ∨ (¬ cls < 0 ∧ ¬ 7 < cls) := by omega
        cases deny
        · rcases hc with h1 | ⟨h1, h2⟩ | ⟨h1, h2⟩
          all_goals
            go_wp2_with fail
            go_ret
            exact ⟨by rw [HF.out]; first | (rw [if_pos (by simp; omega)]; rfl) | (rw [if_neg (by simp; omega)]; rfl), HB2.out⟩
        · go_wp2_with fail
          go_ret
          exact ⟨by rw [HF.out]; rfl, HB2.out⟩

theorem FirstOf.uniq {p : Ru → Bool} {l : List Ru} {n m : Int} (h : FirstOf p l n) (g : FirstOf p l m) : n = m := by
  rcases h with ⟨i, r, rfl, hi, hp, hj⟩ | ⟨rfl, hn⟩ <;> rcases g with ⟨i', r', rfl, hi', hp', hj'⟩ | ⟨rfl, hn'⟩
  · rcases Nat.lt_trichotomy i i' with h | h | h
    · rw [hj' i r h hi] at hp; cases hp
    · rw [h]
    · rw [hj i' r' h hi'] at hp'; cases hp'
  · rw [hn' r (List.mem_of_getElem? hi)] at hp; cases hp
  · rw [hn r' (List.mem_of_getElem? hi')] at hp'; cases hp'
  · rfl

set_option maxRecDepth 100000 in
theorem rwhich_is {w : World} {v : Value} {l : List Ru} {k : Ky} (hl : Rules w v l) (hk : k.Ok) (hlen : l.length ≤ 1000000) :
    Calls Try.prog 37 #[v, .agg k.arr] w fun e w' => ∃ n : Int, e = .returned (.int .i64 n) ∧ FirstOf (fun r => r.fits k) l n ∧ Below w.heap.size w w' := by
  obtain ⟨la, lc, rfl, _⟩ := id hl
  have HL := Lib.hid hl
  clear hl
  go_enter Try.func37, Try.ntmps37
  go_upto_region 1 with (fail)
  obtain ⟨hB0, g0⟩ := one_box w k.arr 79
  generalize w.alloc (.cells k.arr 79) = w1 at *
  have hbl := lt_of_obj g0
  have hK := range_block g0
  have HL1 := Lib.hid (HL.out.below hB0)
  generalize hb : w.heap.size = b at *
  have HB0 := Lib.hid (And.intro hb (And.intro hB0 hK))
  clear hb hB0 g0 hK
  go_wp2_with fail
  go_loopw [5] (RIdxRel w1 (fun r => r.fits k) l) (fun i _ => l.length - (intOf i).toNat)
  case atStart => exact ⟨0, rfl, Nat.zero_le _, Below.refl _ _, fun j s hj => by omega⟩
  case round =>
    obtain ⟨i, rfl, hi, hB, hpk⟩ := hrel
    by_cases hlt : i < l.length
    · obtain ⟨r, hri⟩ : ∃ r, l[i]? = some r := ⟨_, List.getElem?_eq_getElem hlt⟩
      obtain ⟨_, _, e1, _, hrw⟩ := HL1.out.below hB
      injection e1 with e1 _ e2
      subst e1
      subst e2
      obtain ⟨rb, ro, rfl, hrb, hAr⟩ := hrw (by omega)
      obtain ⟨hrok, hrr⟩ := hAr i r hri
      have hii : (i : Int) < (l.length : Int) := by omega
      have HS := Lib.hid (And.intro hB (And.intro hpk hri))
      have hKr := range_below HB0.out.2.2 hbl hB
      have hbl2 : b < wr.heap.size := Nat.lt_of_lt_of_le hbl hB.size
      have k0 : ∀ z : Wld (fun x => Below wr.heap.size wr x), (loadRow 88 (.pointer (some ⟨rb, ro + i * 44, none⟩))).run Try.prog z.w = .ok (.agg r.arr) z.w := fun z => row_rr hrok (range_below hrr hrb z.ok)
      have k1 : ∀ z : Wld (fun x => Below wr.heap.size wr x), (loadRow 79 (.pointer (some ⟨b, 0, none⟩))).run Try.prog z.w = .ok (.agg k.arr) z.w := fun z => row_rk hk (range_below hKr hbl2 z.ok)
      haveI hne : Nonempty (Wld (fun x => Below wr.heap.size wr x)) := ⟨⟨wr, Below.refl _ _⟩⟩
      clear hB hpk hri hAr hrr hKr
      obtain ⟨wq, rfl⟩ : ∃ wo : World, wo = wr := ⟨_, rfl⟩
      go_upto_region 4 with (fail)
      refine region_class (fun x => Below wq.heap.size wq x) (by kernel_rfl) (by kernel_rfl) (Below.refl _ _).drew ?_
      repeat (go_big_quiet_step ((rename_i z; go_at_call 42; exact (r9fits_is hrok hk _).mono fun e w' ⟨he, hb⟩ => ⟨he, ⟨w', z.ok.trans (hb.mono z.ok.size)⟩, rfl⟩)))
      refine wpQuiet_nil ?_
      intro w2 hB2
      have HB2 := Lib.hid (HS.out.1.trans (hB2.mono HS.out.1.size))
      clear hB2 k0 k1 hne
      cases hp : r.fits k with
      | true =>
        have HF := Lib.hid hp
        clear hp
        go_wp2_with fail
        go_ret
        exact ⟨_, rfl, .inl ⟨i, r, rfl, HS.out.2.2, HF.out, HS.out.2.1⟩, by rw [HB0.out.1]; exact HB0.out.2.1.trans (HB2.out.mono (by omega))⟩
      | false =>
        have HM : Hid (RIdxRel w1 (fun r => r.fits k) l (.int .i64 (i + 1 : Nat)) w2) := ⟨i + 1, rfl, hlt, HB2.out, fun j s hj hs => by
          rcases Nat.lt_or_ge j i with h | h
          · exact HS.out.2.1 j s h hs
          · rw [show j = i by omega, HS.out.2.2] at hs
            injection hs with hs
            rw [← hs]; exact hp⟩
        clear hp
        go_wp2_with fail
        go_roundw
        case rel => exact HM.out
        case measure => simp [intOf]; omega
    · have HH := Lib.hid (And.intro hB hpk)
      clear hB hpk
      go_wp2_with fail
      go_ret
      exact ⟨_, rfl, .inr ⟨rfl, fun s hs => by
        obtain ⟨j, hj⟩ := List.mem_iff_getElem?.1 hs
        exact HH.out.2 j s (by have := (List.getElem?_eq_some_iff.1 hj).1; omega) hj⟩, by rw [HB0.out.1]; exact HB0.out.2.1.trans (HH.out.1.mono (by omega))⟩

set_option maxRecDepth 100000 in
theorem rclass_is (deny : Bool) (cls : Int) {w : World} {v : Value} {l : List Ru} {k : Ky} (hl : Rules w v l) (hk : k.Ok) (hlen : l.length ≤ 1000000) :
    Calls Try.prog 36 #[.bool deny, .int .i64 cls, v, .agg k.arr] w fun e w' => e = toldRes (told l (others deny cls) k) ∧ Below w.heap.size w w' := by
  obtain ⟨la, lc, rfl, _⟩ := id hl
  have HL := Lib.hid hl
  clear hl
  go_enter Try.func36, Try.ntmps36
  go_upto_region 1 with (fail)
  obtain ⟨hB0, g0⟩ := one_box w k.arr 79
  generalize w.alloc (.cells k.arr 79) = w1 at *
  have k0 := row_rk hk (range_block g0)
  have HL1 := Lib.hid (HL.out.below hB0)
  generalize hb : w.heap.size = b at *
  have HB0 := Lib.hid (And.intro hb hB0)
  clear hb hB0 g0
  go_wp2_with fail
  refine (rwhich_is HL1.out hk hlen).mono ?_
  rintro e w2 ⟨n, rfl, hf, hB2⟩
  have HB2 := Lib.hid (HB0.out.2.trans (hB2.mono (by have := HB0.out.2.size; have := HB0.out.1; omega)))
  have HL2 := Lib.hid (HL1.out.below hB2)
  clear hB2 k0
  rcases first_told (o := others deny cls) hf with ⟨i, rfl, hi, hri, _⟩ | ⟨rfl, ht, _⟩
  · obtain ⟨r, hr⟩ : ∃ r, told l (others deny cls) k = r := ⟨_, rfl⟩
    rw [hr] at hri
    have HT := Lib.hid hr
    obtain ⟨_, _, e1, _, hrw⟩ := HL2.out
    injection e1 with e1 _ e2
    subst e1
    subst e2
    obtain ⟨rb, ro, rfl, hrb, hAr⟩ := hrw (by omega)
    obtain ⟨hrok, hrr⟩ := hAr i r hri
    have hii : (i : Int) < (l.length : Int) := by omega
    have c42 : w2.cell? ⟨rb, ro + i * 44 + 42, none⟩ = some (.bool r.deny) := by
      have := hrr 42 (.bool r.deny) (by simp [Ru.cs, Pf.len_cs hrok.s, Pf.len_cs hrok.d])
      exact this
    have c43 : w2.cell? ⟨rb, ro + i * 44 + 43, none⟩ = some (.int .i64 r.cls) := by
      have := hrr 43 (.int .i64 r.cls) (by simp [Ru.cs, Pf.len_cs hrok.s, Pf.len_cs hrok.d])
      exact this
    clear hf hr hri hAr hrr hrw
    cases hd : r.deny with
    | false =>
      rw [hd] at c42
      have HR : Hid (toldRes r = .returned (.tuple #[.int .i64 r.cls, .int .i64 0])) := by show _ = _; unfold toldRes; rw [hd]; rfl
      clear hd
      go_wp2_with fail
      exact bodyPost_ret (v := .tuple #[.int .i64 r.cls, .int .i64 0]) (by simp [results, Try.results36, go_sem]) rfl ⟨by rw [HT.out, HR.out], by rw [HB0.out.1]; exact HB2.out⟩
    | true =>
      rw [hd] at c42
      have HR : Hid (toldRes r = .returned (.tuple #[.int .i64 0, .int .i64 90])) := by show _ = _; unfold toldRes; rw [hd]; rfl
      clear hd
      go_wp2_with fail
      exact bodyPost_ret (v := .tuple #[.int .i64 0, .int .i64 90]) (by simp [results, Try.results36, go_sem]) rfl ⟨by rw [HT.out, HR.out], by rw [HB0.out.1]; exact HB2.out⟩
  · have HT := Lib.hid ht
    clear hf ht
    cases deny
    all_goals
      go_wp2_with fail
      first
        | exact bodyPost_ret (v := .tuple #[.int .i64 0, .int .i64 90]) (by simp [results, Try.results36, go_sem]) rfl ⟨by rw [HT.out]; rfl, by rw [HB0.out.1]; exact HB2.out⟩
        | exact bodyPost_ret (v := .tuple #[.int .i64 cls, .int .i64 0]) (by simp [results, Try.results36, go_sem]) rfl ⟨by rw [HT.out]; rfl, by rw [HB0.out.1]; exact HB2.out⟩

def SiRel (W : World) (n : Nat) (i : Value) (w : World) : Prop := ∃ k : Nat, i = .int .i64 k ∧ k ≤ n ∧ Below W.heap.size W w
set_option maxRecDepth 100000 in
theorem same_ints {w : World} {B C : Nat} {va vb : Value} {ds : List Nat} (ha : w.ownsRow B 3 1 va ds.length (iCells ds)) (hb : w.ownsRow C 3 1 vb ds.length (iCells ds)) (hlen : ds.length ≤ 1000000) :
    Calls Try.prog 39 #[va, vb] w fun e w' => e = .returned (.bool true) ∧ Below w.heap.size w w' := by
  obtain ⟨aa, ac, rfl⟩ := own_shape ha
  obtain ⟨ba, bc, rfl⟩ := own_shape hb
  have HA := Lib.hid (And.intro ha hb)
  clear ha hb
  go_enter Try.func39, Try.ntmps39
  go_wp2_with fail
  go_loopw [5] (SiRel w ds.length) (fun i _ => ds.length - (intOf i).toNat)
  case atStart => exact ⟨0, rfl, Nat.zero_le _, Below.refl _ _⟩
  case round =>
    obtain ⟨k, rfl, hk, hB⟩ := hrel
    by_cases hlt : k < ds.length
    · obtain ⟨x, hx⟩ : ∃ x, ds[k]? = some x := ⟨_, List.getElem?_eq_getElem hlt⟩
      obtain ⟨g, rfl, hgl, hgc⟩ := own_int_at HA.out.1 hx
      obtain ⟨g2, rfl, hgl2, hgc2⟩ := own_int_at HA.out.2 hx
      have y0 : wr.cell? ⟨g, k, none⟩ = some (.int .i64 (x : Nat)) := (hB.cell (p := ⟨g, k, none⟩) hgl).trans hgc
      have y1 : wr.cell? ⟨g2, k, none⟩ = some (.int .i64 (x : Nat)) := (hB.cell (p := ⟨g2, k, none⟩) hgl2).trans hgc2
      have hki : (k : Int) < (ds.length : Int) := by omega
      have HM : Hid (SiRel w ds.length (.int .i64 (k + 1 : Nat)) wr.drew) := ⟨k + 1, rfl, hlt, hB.drew⟩
      clear hB hgc hgc2 hx
      go_wp2_with fail
      go_region
      all_goals
        go_wp2_with fail
        go_roundw
        case rel => exact HM.out
        case measure => simp [intOf]; omega
    · have HB := Lib.hid hB
      clear hB
      go_wp2_with fail
      go_ret
      exact ⟨rfl, HB.out⟩
end Go.Proofs.Ytcbkcalemfminaa
