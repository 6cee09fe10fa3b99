/- What rules ask for: the row of closures; each of them, walked. -/
import Derived.Test.YtcbkcalemfminaaRu7
import Derived.Laws.EntriesVeiled
namespace Go.Proofs.Ytcbkcalemfminaa
open Go.RowKit
attribute [local go_sem ↓] load_ad load_pf load_ru load_ky load_bs build_pf build_ru rows_pf rows_ru

/-- What rules ask for, of a packet; of another rule. -/
def fitsP (i : Nat) (r : Ru) (k : Ky) : Bool :=
  match i with
  | 0 => (r.ver == 0) || (r.ver == k.src.ver)
  | 1 => decide (r.proto < 0) || (r.proto == (k.proto : Int))
  | 2 => r.src.isNone || r.src.has k.src
  | 3 => r.dst.isNone || r.dst.has k.dst
  | 4 => portedB r.slo r.shi k k.sp
  | _ => portedB r.dlo r.dhi k k.dp
def holdsP (i : Nat) (r s : Ru) : Bool :=
  match i with
  | 0 => (r.ver == 0) || (r.ver == s.ver)
  | 1 => decide (r.proto < 0) || (r.proto == s.proto)
  | 2 => prefixedB r.src s.src
  | 3 => prefixedB r.dst s.dst
  | 4 => decide (r.slo ≤ s.slo) && decide (s.shi ≤ r.shi)
  | _ => decide (r.dlo ≤ s.dlo) && decide (s.dhi ≤ r.dhi)

set_option maxRecDepth 100000 in
theorem of_is {a : Ad} (ha : a.Ok) (w : World) :
    Calls Try.prog 46 #[.agg a.arr] w fun e w' => e = .returned (.int .i64 a.ver) ∧ Below w.heap.size w w' := by
  have hB : Below w.heap.size w (w.alloc (.cells a.arr 25)) := (Below.refl _ _).alloc (Nat.le_refl _) _
  have hr : (w.alloc (.cells a.arr 25)).rangeAt w.heap.size 0 a.cs := range_block (alloc_block_new w (.cells a.arr 25))
  have hL := row_ad ha hr
  have hb := built_one ha
  go_enter Try.func46, Try.ntmps46
  go_wp2_with fail
  refine (version_is ⟨a, 0⟩ _).mono ?_
  rintro e w2 ⟨rfl, hB2⟩
  go_wp2_with fail
  go_ret
  exact ⟨rfl, hB.trans (hB2.mono (by simp))⟩

/-- The closures, as values. -/
def fitsF (c i : Nat) : Value :=
  match i with
  | 0 => .func (.func 47) #[] #[.pointer (some ⟨c, 0, none⟩)]
  | 1 => .func (.func 49) #[] #[]
  | 2 => .func (.func 51) #[] #[]
  | 3 => .func (.func 55) #[] #[]
  | 4 => .func (.func 57) #[] #[]
  | _ => .func (.func 60) #[] #[]
def holdsF (i : Nat) : Value :=
  match i with
  | 0 => .func (.func 48) #[] #[]
  | 1 => .func (.func 50) #[] #[]
  | 2 => .func (.func 53) #[] #[]
  | 3 => .func (.func 56) #[] #[]
  | 4 => .func (.func 59) #[] #[]
  | _ => .func (.func 61) #[] #[]
def asksArr (c : Nat) : Array Value := #[fitsF c 0, holdsF 0, fitsF c 1, holdsF 1, fitsF c 2, holdsF 2, fitsF c 3, holdsF 3, fitsF c 4, holdsF 4, fitsF c 5, holdsF 5]
/-- The row of what rules ask for. -/
structure Asks (w : World) (g c : Nat) : Prop where
  row : w.heap[g]? = some (.cells (asksArr c) 68 (0, 0))
  of : w.heap[c]? = some (.cells #[.func (.func 46) #[] #[]] 95 (0, 0))
theorem Asks.below {w w' : World} {g c : Nat} (h : Asks w g c) (hB : Below w.heap.size w w') : Asks w' g c :=
  ⟨(hB.block _ (lt_of_obj h.row)).trans h.row, (hB.block _ (lt_of_obj h.of)).trans h.of⟩

set_option maxRecDepth 100000 in
theorem all_is (w : World) :
    Calls Try.prog 24 #[] w fun e w' => ∃ g c, e = .returned (.slice (some ⟨g, 0, none⟩) 6 6) ∧ Asks w' g c ∧ Below w.heap.size w w' := by
  have hmf : ∀ (fn : Fn) (first cap : Array Value) (w : World), (Instr.makeFunc fn first cap).run Try.prog w = .ok (.func fn first cap) w := fun fn first cap w => by simp [Instr.makeFunc]
  go_enter Try.func24, Try.ntmps24
  go_wp2_with fail
  go_ret
  obtain ⟨hB, g0, g1⟩ := two_boxes w #[.func (.func 46) #[] #[]] (asksArr w.heap.size) 95 68
  exact ⟨w.heap.size + 1, w.heap.size, rfl, ⟨g1, g0⟩, hB⟩


set_option maxRecDepth 100000 in
theorem holds0 {r : Ru} {s : Ru} (hr : r.Ok) (hs : s.Ok) (w : World) :
    Calls Try.prog 48 #[.agg r.arr, .agg s.arr] w fun e w' => e = .returned (.bool (holdsP 0 r s)) ∧ Below w.heap.size w w' := by
  go_enter Try.func48, Try.ntmps48
  go_upto_region 1 with (fail)
  obtain ⟨hB, g0, g1⟩ := two_boxes w r.arr s.arr 43 43
  generalize (w.alloc (.cells r.arr 43)).alloc (.cells s.arr 43) = w1 at *
  have hl := lt_of_obj g0
  have hl1 := lt_of_obj g1
  have q0 : w1.rangeAt w.heap.size 0 r.cs := range_block g0
  have q1 : w1.rangeAt (w.heap.size + 1) 0 s.cs := range_block g1
  generalize hb : w.heap.size = b at *
  have HB := Lib.hid (And.intro hb hB)
  have c0 := Ru.c0 q0
  have c1 := Ru.c0 q1
  clear hb hB g0 g1 q0 q1
  cases h0 : (r.ver == 0) <;> cases h1 : (r.ver == s.ver)
  all_goals
    go_wp2_with fail
    go_ret
    exact ⟨by simp [holdsP, h0, h1], by rw [HB.out.1]; exact HB.out.2⟩


set_option maxRecDepth 100000 in
theorem holds1 {r : Ru} {s : Ru} (hr : r.Ok) (hs : s.Ok) (w : World) :
    Calls Try.prog 50 #[.agg r.arr, .agg s.arr] w fun e w' => e = .returned (.bool (holdsP 1 r s)) ∧ Below w.heap.size w w' := by
  go_enter Try.func50, Try.ntmps50
  go_upto_region 1 with (fail)
  obtain ⟨hB, g0, g1⟩ := two_boxes w r.arr s.arr 43 43
  generalize (w.alloc (.cells r.arr 43)).alloc (.cells s.arr 43) = w1 at *
  have hl := lt_of_obj g0
  have hl1 := lt_of_obj g1
  have q0 : w1.rangeAt w.heap.size 0 r.cs := range_block g0
  have q1 : w1.rangeAt (w.heap.size + 1) 0 s.cs := range_block g1
  generalize hb : w.heap.size = b at *
  have HB := Lib.hid (And.intro hb hB)
  have c0 := Ru.c1 q0
  have c1 := Ru.c1 q1
  clear hb hB g0 g1 q0 q1
  by_cases h0 : r.proto < 0
  · go_wp2_with fail
    go_ret
    exact ⟨by simp [holdsP, h0], by rw [HB.out.1]; exact HB.out.2⟩
  · cases h1 : (r.proto == s.proto)
    all_goals
      go_wp2_with fail
      go_ret
      exact ⟨by simp [holdsP, h0, h1], by rw [HB.out.1]; exact HB.out.2⟩


set_option maxRecDepth 100000 in
theorem holds2 {r : Ru} {s : Ru} (hr : r.Ok) (hs : s.Ok) (w : World) :
    Calls Try.prog 53 #[.agg r.arr, .agg s.arr] w fun e w' => e = .returned (.bool (holdsP 2 r s)) ∧ Below w.heap.size w w' := by
  go_enter Try.func53, Try.ntmps53
  go_upto_region 1 with (fail)
  obtain ⟨hB, g0, g1⟩ := two_boxes w r.arr s.arr 43 43
  generalize (w.alloc (.cells r.arr 43)).alloc (.cells s.arr 43) = w1 at *
  have hl := lt_of_obj g0
  have hl1 := lt_of_obj g1
  have q0 : w1.rangeAt w.heap.size 0 r.cs := range_block g0
  have q1 : w1.rangeAt (w.heap.size + 1) 0 s.cs := range_block g1
  generalize hb : w.heap.size = b at *
  have HB := Lib.hid (And.intro hb hB)
  have l0 := row_pf hr.s (Ru.rSrc q0)
  have l1 := row_pf hs.s (Ru.rSrc q1)
  clear hb hB g0 g1 q0 q1
  go_wp2_with fail
  refine (prefixed_is hr.s hs.s _).mono ?_
  rintro e w2 ⟨rfl, hB2⟩
  go_wp2_with fail
  go_ret
  exact ⟨rfl, by rw [HB.out.1]; exact HB.out.2.trans (hB2.mono (by omega))⟩


set_option maxRecDepth 100000 in
theorem holds3 {r : Ru} {s : Ru} (hr : r.Ok) (hs : s.Ok) (w : World) :
    Calls Try.prog 56 #[.agg r.arr, .agg s.arr] w fun e w' => e = .returned (.bool (holdsP 3 r s)) ∧ Below w.heap.size w w' := by
  go_enter Try.func56, Try.ntmps56
  go_upto_region 1 with (fail)
  obtain ⟨hB, g0, g1⟩ := two_boxes w r.arr s.arr 43 43
  generalize (w.alloc (.cells r.arr 43)).alloc (.cells s.arr 43) = w1 at *
  have hl := lt_of_obj g0
  have hl1 := lt_of_obj g1
  have q0 : w1.rangeAt w.heap.size 0 r.cs := range_block g0
  have q1 : w1.rangeAt (w.heap.size + 1) 0 s.cs := range_block g1
  generalize hb : w.heap.size = b at *
  have HB := Lib.hid (And.intro hb hB)
  have l0 := row_pf hr.d (Ru.rDst hr q0)
  have l1 := row_pf hs.d (Ru.rDst hs q1)
  clear hb hB g0 g1 q0 q1
  go_wp2_with fail
  refine (prefixed_is hr.d hs.d _).mono ?_
  rintro e w2 ⟨rfl, hB2⟩
  go_wp2_with fail
  go_ret
  exact ⟨rfl, by rw [HB.out.1]; exact HB.out.2.trans (hB2.mono (by omega))⟩


set_option maxRecDepth 100000 in
theorem holds4 {r : Ru} {s : Ru} (hr : r.Ok) (hs : s.Ok) (w : World) :
    Calls Try.prog 59 #[.agg r.arr, .agg s.arr] w fun e w' => e = .returned (.bool (holdsP 4 r s)) ∧ Below w.heap.size w w' := by
  go_enter Try.func59, Try.ntmps59
  go_upto_region 1 with (fail)
  obtain ⟨hB, g0, g1⟩ := two_boxes w r.arr s.arr 43 43
  generalize (w.alloc (.cells r.arr 43)).alloc (.cells s.arr 43) = w1 at *
  have hl := lt_of_obj g0
  have hl1 := lt_of_obj g1
  have q0 : w1.rangeAt w.heap.size 0 r.cs := range_block g0
  have q1 : w1.rangeAt (w.heap.size + 1) 0 s.cs := range_block g1
  generalize hb : w.heap.size = b at *
  have HB := Lib.hid (And.intro hb hB)
  have c0 := Ru.c38 hr q0
  have c1 := Ru.c39 hr q0
  have c2 := Ru.c38 hs q1
  have c3 := Ru.c39 hs q1
  clear hb hB g0 g1 q0 q1
  by_cases h0 : r.slo ≤ s.slo
  · by_cases h1 : s.shi ≤ r.shi
    all_goals
      go_wp2_with fail
      go_ret
      exact ⟨by first | simp [holdsP, h0, h1] | (simp [holdsP, h0]; omega), by rw [HB.out.1]; exact HB.out.2⟩
  · go_wp2_with fail
    go_ret
    exact ⟨by first | simp [holdsP, h0] | (simp [holdsP]; omega), by rw [HB.out.1]; exact HB.out.2⟩


set_option maxRecDepth 100000 in
theorem holds5 {r : Ru} {s : Ru} (hr : r.Ok) (hs : s.Ok) (w : World) :
    Calls Try.prog 61 #[.agg r.arr, .agg s.arr] w fun e w' => e = .returned (.bool (holdsP 5 r s)) ∧ Below w.heap.size w w' := by
  go_enter Try.func61, Try.ntmps61
  go_upto_region 1 with (fail)
  obtain ⟨hB, g0, g1⟩ := two_boxes w r.arr s.arr 43 43
  generalize (w.alloc (.cells r.arr 43)).alloc (.cells s.arr 43) = w1 at *
  have hl := lt_of_obj g0
  have hl1 := lt_of_obj g1
  have q0 : w1.rangeAt w.heap.size 0 r.cs := range_block g0
  have q1 : w1.rangeAt (w.heap.size + 1) 0 s.cs := range_block g1
  generalize hb : w.heap.size = b at *
  have HB := Lib.hid (And.intro hb hB)
  have c0 := Ru.c40 hr q0
  have c1 := Ru.c41 hr q0
  have c2 := Ru.c40 hs q1
  have c3 := Ru.c41 hs q1
  clear hb hB g0 g1 q0 q1
  by_cases h0 : r.dlo ≤ s.dlo
  · by_cases h1 : s.dhi ≤ r.dhi
    all_goals
      go_wp2_with fail
      go_ret
      exact ⟨by first | simp [holdsP, h0, h1] | (simp [holdsP, h0]; omega), by rw [HB.out.1]; exact HB.out.2⟩
  · go_wp2_with fail
    go_ret
    exact ⟨by first | simp [holdsP, h0] | (simp [holdsP]; omega), by rw [HB.out.1]; exact HB.out.2⟩


set_option maxRecDepth 100000 in
theorem fits1 {r : Ru} {k : Ky} (hr : r.Ok) (hk : k.Ok) (w : World) :
    Calls Try.prog 49 #[.agg r.arr, .agg k.arr] w fun e w' => e = .returned (.bool (fitsP 1 r k)) ∧ Below w.heap.size w w' := by
  go_enter Try.func49, Try.ntmps49
  go_upto_region 1 with (fail)
  obtain ⟨hB, g0, g1⟩ := two_boxes w r.arr k.arr 43 28
  generalize (w.alloc (.cells r.arr 43)).alloc (.cells k.arr 28) = w1 at *
  have hl := lt_of_obj g0
  have hl1 := lt_of_obj g1
  have q0 : w1.rangeAt w.heap.size 0 r.cs := range_block g0
  have q1 : w1.rangeAt (w.heap.size + 1) 0 k.cs := range_block g1
  generalize hb : w.heap.size = b at *
  have HB := Lib.hid (And.intro hb hB)
  have c0 := Ru.c1 q0
  have c1 := Ky.c34 hk q1
  have hkp := hk.p
  have hw : wrap64 (k.proto : Int) = (k.proto : Int) := IntWalk.wrap64_in _ (by omega)
  clear hb hB g0 g1 q0 q1
  by_cases h0 : r.proto < 0
  · go_wp2_with fail
    go_ret
    exact ⟨by simp [fitsP, h0], by rw [HB.out.1]; exact HB.out.2⟩
  · cases h1 : (r.proto == (k.proto : Int))
    all_goals
      go_wp2_with fail
      go_ret
      exact ⟨by simp [fitsP, h0, h1], by rw [HB.out.1]; exact HB.out.2⟩


set_option maxRecDepth 100000 in
theorem fits2 {r : Ru} {k : Ky} (hr : r.Ok) (hk : k.Ok) (w : World) :
    Calls Try.prog 51 #[.agg r.arr, .agg k.arr] w fun e w' => e = .returned (.bool (fitsP 2 r k)) ∧ Below w.heap.size w w' := by
  go_enter Try.func51, Try.ntmps51
  go_upto_region 1 with (fail)
  obtain ⟨hB, g0, g1⟩ := two_boxes w r.arr k.arr 43 28
  generalize (w.alloc (.cells r.arr 43)).alloc (.cells k.arr 28) = w1 at *
  have hl := lt_of_obj g0
  have hl1 := lt_of_obj g1
  have q0 : w1.rangeAt w.heap.size 0 r.cs := range_block g0
  have q1 : w1.rangeAt (w.heap.size + 1) 0 k.cs := range_block g1
  generalize hb : w.heap.size = b at *
  have HB := Lib.hid (And.intro hb hB)
  have HP : Hid (∀ w', Below w1.heap.size w1 w' → (loadRow 39 (.pointer (some ⟨b, 2, none⟩))).run Try.prog w' = .ok (.agg r.src.arr) w' ∧ (loadRow 25 (.pointer (some ⟨b + 1, 0, none⟩))).run Try.prog w' = .ok (.agg k.src.arr) w') := fun w' hB' =>
    ⟨row_pf hr.s (range_below (Ru.rSrc q0) hl hB'), row_ad hk.s (range_below (Ky.rSrc q1) hl1 hB')⟩
  clear hb hB g0 g1 q0 q1
  obtain ⟨l0, _⟩ := HP.out w1 (Below.refl _ _)
  go_wp2_with fail
  refine (none_b hr.s _).mono ?_
  rintro e w2 ⟨rfl, hB2⟩
  have HB2 := Lib.hid hB2
  clear l0 hB2
  cases h1 : r.src.isNone with
  | true =>
    go_wp2_with fail
    go_ret
    exact ⟨by simp [fitsP, h1], by rw [HB.out.1]; exact HB.out.2.trans (HB2.out.mono (by omega))⟩
  | false =>
    obtain ⟨l0, l1⟩ := HP.out w2 HB2.out
    go_wp2_with fail
    refine (has_is hr.s hk.s _).mono ?_
    rintro e w3 ⟨rfl, hB3⟩
    have HB3 := Lib.hid (HB2.out.trans (hB3.mono HB2.out.size))
    clear hB3 l0 l1
    go_wp2_with fail
    go_ret
    exact ⟨by simp [fitsP, h1], by rw [HB.out.1]; exact HB.out.2.trans (HB3.out.mono (by omega))⟩


set_option maxRecDepth 100000 in
theorem fits3 {r : Ru} {k : Ky} (hr : r.Ok) (hk : k.Ok) (w : World) :
    Calls Try.prog 55 #[.agg r.arr, .agg k.arr] w fun e w' => e = .returned (.bool (fitsP 3 r k)) ∧ Below w.heap.size w w' := by
  go_enter Try.func55, Try.ntmps55
  go_upto_region 1 with (fail)
  obtain ⟨hB, g0, g1⟩ := two_boxes w r.arr k.arr 43 28
  generalize (w.alloc (.cells r.arr 43)).alloc (.cells k.arr 28) = w1 at *
  have hl := lt_of_obj g0
  have hl1 := lt_of_obj g1
  have q0 : w1.rangeAt w.heap.size 0 r.cs := range_block g0
  have q1 : w1.rangeAt (w.heap.size + 1) 0 k.cs := range_block g1
  generalize hb : w.heap.size = b at *
  have HB := Lib.hid (And.intro hb hB)
  have HP : Hid (∀ w', Below w1.heap.size w1 w' → (loadRow 39 (.pointer (some ⟨b, 20, none⟩))).run Try.prog w' = .ok (.agg r.dst.arr) w' ∧ (loadRow 25 (.pointer (some ⟨b + 1, 17, none⟩))).run Try.prog w' = .ok (.agg k.dst.arr) w') := fun w' hB' =>
    ⟨row_pf hr.d (range_below (Ru.rDst hr q0) hl hB'), row_ad hk.d (range_below (Ky.rDst hk q1) hl1 hB')⟩
  clear hb hB g0 g1 q0 q1
  obtain ⟨l0, _⟩ := HP.out w1 (Below.refl _ _)
  go_wp2_with fail
  refine (none_b hr.d _).mono ?_
  rintro e w2 ⟨rfl, hB2⟩
  have HB2 := Lib.hid hB2
  clear l0 hB2
  cases h1 : r.dst.isNone with
  | true =>
    go_wp2_with fail
    go_ret
    exact ⟨by simp [fitsP, h1], by rw [HB.out.1]; exact HB.out.2.trans (HB2.out.mono (by omega))⟩
  | false =>
    obtain ⟨l0, l1⟩ := HP.out w2 HB2.out
    go_wp2_with fail
    refine (has_is hr.d hk.d _).mono ?_
    rintro e w3 ⟨rfl, hB3⟩
    have HB3 := Lib.hid (HB2.out.trans (hB3.mono HB2.out.size))
    clear hB3 l0 l1
    go_wp2_with fail
    go_ret
    exact ⟨by simp [fitsP, h1], by rw [HB.out.1]; exact HB.out.2.trans (HB3.out.mono (by omega))⟩


set_option maxRecDepth 100000 in
theorem fits4 {r : Ru} {k : Ky} (hr : r.Ok) (hk : k.Ok) (w : World) :
    Calls Try.prog 57 #[.agg r.arr, .agg k.arr] w fun e w' => e = .returned (.bool (fitsP 4 r k)) ∧ Below w.heap.size w w' := by
  go_enter Try.func57, Try.ntmps57
  go_upto_region 1 with (fail)
  obtain ⟨hB, g0, g1⟩ := two_boxes w r.arr k.arr 43 28
  generalize (w.alloc (.cells r.arr 43)).alloc (.cells k.arr 28) = w1 at *
  have hl := lt_of_obj g0
  have hl1 := lt_of_obj g1
  have q0 : w1.rangeAt w.heap.size 0 r.cs := range_block g0
  have q1 : w1.rangeAt (w.heap.size + 1) 0 k.cs := range_block g1
  generalize hb : w.heap.size = b at *
  have HB := Lib.hid (And.intro hb hB)
  have c0 := Ru.c38 hr q0
  have c1 := Ru.c39 hr q0
  have c2 := Ky.c35 hk q1
  have l1 := row_ky hk q1
  clear hb hB g0 g1 q0 q1
  go_wp2_with fail
  refine (ported_is hk _ _ _ _).mono ?_
  rintro e w2 ⟨rfl, hB2⟩
  go_wp2_with fail
  go_ret
  exact ⟨rfl, by rw [HB.out.1]; exact HB.out.2.trans (hB2.mono (by omega))⟩


set_option maxRecDepth 100000 in
theorem fits5 {r : Ru} {k : Ky} (hr : r.Ok) (hk : k.Ok) (w : World) :
    Calls Try.prog 60 #[.agg r.arr, .agg k.arr] w fun e w' => e = .returned (.bool (fitsP 5 r k)) ∧ Below w.heap.size w w' := by
  go_enter Try.func60, Try.ntmps60
  go_upto_region 1 with (fail)
  obtain ⟨hB, g0, g1⟩ := two_boxes w r.arr k.arr 43 28
  generalize (w.alloc (.cells r.arr 43)).alloc (.cells k.arr 28) = w1 at *
  have hl := lt_of_obj g0
  have hl1 := lt_of_obj g1
  have q0 : w1.rangeAt w.heap.size 0 r.cs := range_block g0
  have q1 : w1.rangeAt (w.heap.size + 1) 0 k.cs := range_block g1
  generalize hb : w.heap.size = b at *
  have HB := Lib.hid (And.intro hb hB)
  have c0 := Ru.c40 hr q0
  have c1 := Ru.c41 hr q0
  have c2 := Ky.c36 hk q1
  have l1 := row_ky hk q1
  clear hb hB g0 g1 q0 q1
  go_wp2_with fail
  refine (ported_is hk _ _ _ _).mono ?_
  rintro e w2 ⟨rfl, hB2⟩
  go_wp2_with fail
  go_ret
  exact ⟨rfl, by rw [HB.out.1]; exact HB.out.2.trans (hB2.mono (by omega))⟩


set_option maxRecDepth 100000 in
theorem fits0 {r : Ru} {k : Ky} (hr : r.Ok) (hk : k.Ok) (w : World) {c : Nat} (hc : w.heap[c]? = some (.cells #[.func (.func 46) #[] #[]] 95 (0, 0))) :
    Calls Try.prog 47 #[.agg r.arr, .agg k.arr, .pointer (some ⟨c, 0, none⟩)] w fun e w' => e = .returned (.bool (fitsP 0 r k)) ∧ Below w.heap.size w w' := by
  go_enter Try.func47, Try.ntmps47
  go_upto_region 1 with (fail)
  obtain ⟨hB, g0, g1⟩ := two_boxes w r.arr k.arr 43 28
  generalize (w.alloc (.cells r.arr 43)).alloc (.cells k.arr 28) = w1 at *
  have hl := lt_of_obj g0
  have hl1 := lt_of_obj g1
  have q0 : w1.rangeAt w.heap.size 0 r.cs := range_block g0
  have q1 : w1.rangeAt (w.heap.size + 1) 0 k.cs := range_block g1
  generalize hb : w.heap.size = b at *
  have HB := Lib.hid (And.intro hb hB)
  have hcl := lt_of_obj hc
  have F0 : ∀ z : Wld (fun x => Below w1.heap.size w1 x), z.w.cell? ⟨b, 0, none⟩ = some (.int .i64 r.ver) := fun z => Ru.c0 (range_below q0 hl z.ok)
  have F1 : ∀ z : Wld (fun x => Below w1.heap.size w1 x), (loadRow 25 (.pointer (some ⟨b + 1, 0, none⟩))).run Try.prog z.w = .ok (.agg k.src.arr) z.w := fun z => row_ad hk.s (Ky.rSrc (range_below q1 hl1 z.ok))
  have F2 : ∀ z : Wld (fun x => Below w1.heap.size w1 x), z.w.cell? ⟨c, 0, none⟩ = some (.func (.func 46) #[] #[]) := fun z => (z.ok.cell (p := ⟨c, 0, none⟩) (by show c < w1.heap.size; omega)).trans ((hB.cell (p := ⟨c, 0, none⟩) (by show c < b; omega)).trans (cell_of_block hc 0))
  haveI hne : Nonempty (Wld (fun x => Below w1.heap.size w1 x)) := ⟨⟨w1, Below.refl _ _⟩⟩
  clear hb hB g0 g1 q0 q1
  cases h0 : (r.ver == 0) <;> cases h1 : (r.ver == k.src.ver)
  all_goals
    refine region_class (fun x => Below w1.heap.size w1 x) (by kernel_rfl) (by kernel_rfl) (Below.refl _ _).drew ?_
    repeat (go_big_quiet_step ((rename_i z; first
      | (go_at_call 46; exact (of_is hk.s _).mono fun e w' ⟨he, hb⟩ => ⟨he, ⟨w', z.ok.trans (hb.mono z.ok.size)⟩, rfl⟩))))
    refine wpQuiet_nil ?_
    intro w2 hB2
    have hBf := HB.out.2.trans (hB2.mono (by omega))
    clear F0 F1 F2 hne
    go_wp2_with fail
    go_ret
    exact ⟨by simp [fitsP, h0, h1], by rw [HB.out.1]; exact hBf⟩

end Go.Proofs.Ytcbkcalemfminaa
