/- The reference's small questions about prefixes and ports: walked. -/
import Derived.Test.YtcbkcalemfminaaRr5
namespace Go.Proofs.Ytcbkcalemfminaa
open Go.RowKit
attribute [local go_sem ↓] load_ra load_rp build_ra build_rp

theorem built_ra0 (w : World) : (buildRow 77 #[]).run Try.prog w = .ok (.agg Ad.zero.arr) w := by
  unfold buildRow
  exact run_build w _ _ _ (by kernel_rfl)
theorem one_box (w : World) (x : Array Value) (T : TypeId) : Below w.heap.size w (w.alloc (.cells x T)) ∧ (w.alloc (.cells x T)).heap[w.heap.size]? = some (.cells x T (0, 0)) := ⟨(Below.refl _ _).alloc (Nat.le_refl _) _, alloc_block_new w _⟩
theorem zero_right : Pf.zero.right = true := by decide +kernel
theorem isNone_iff {p : Pf} : p.isNone = true ↔ p = Pf.zero := by simp [Pf.isNone]
theorem isNone_no {p : Pf} (h : p = Pf.zero → False) : p.isNone = false := by simp [Pf.isNone]; exact h

set_option maxRecDepth 100000 in
theorem rnone_is {p : Pf} (hp : p.a.Ok) (w : World) :
    Calls Try.prog 69 #[.agg p.arr] w fun e w' => e = .returned (.bool p.isNone) ∧ Below w.heap.size w w' := by
  go_enter Try.func69, Try.ntmps69
  go_upto_region 1 with (fail)
  obtain ⟨hB, g0⟩ := one_box w p.arr 86
  generalize w.alloc (.cells p.arr 86) = w1 at *
  have hl := lt_of_obj g0
  have hr : w1.rangeAt w.heap.size 0 p.cs := range_block g0
  generalize hb : w.heap.size = b at *
  have HB := Lib.hid (And.intro hb hB)
  have HC : Hid (∀ w', Below w1.heap.size w1 w' → (loadRow 86 (.pointer (some ⟨b, 0, none⟩))).run Try.prog w' = .ok (.agg p.arr) w' ∧ (loadRow 77 (.pointer (some ⟨b, 0, none⟩))).run Try.prog w' = .ok (.agg p.a.arr) w' ∧ w'.cell? ⟨b, 17, none⟩ = some (.int .i64 p.len) ∧ w'.cell? ⟨b, 0, none⟩ = some (.bool p.a.six)) := fun w' hB' =>
    ⟨row_rp hp (range_below hr hl hB'), row_ra hp (Pf.rA (range_below hr hl hB')), by
      have := Pf.cLen hp (range_below hr hl hB')
      rw [Nat.zero_add] at this
      exact this, Ad.cSix (Pf.rA (range_below hr hl hB'))⟩
  clear hb hB g0 hr
  obtain ⟨k0, k1, k2, k3⟩ := HC.out w1 (Below.refl _ _)
  have hz0 := built_ra0
  by_cases hlen : p.len = 0
  · rw [hlen] at k2
    cases hs : p.a.six
    · rw [hs] at k3
      go_wp2_with fail
      refine (rpright_is hp _).mono ?_
      rintro e w2 ⟨rfl, hB2⟩
      have HB2 := Lib.hid hB2
      clear k0 k1 k2 k3
      obtain ⟨k0, k1, _, _⟩ := HC.out w2 hB2
      clear hB2
      cases hR : p.right
      · have HN : Hid (p.isNone = false) := isNone_no fun e => by rw [e, zero_right] at hR; cases hR
        clear hR
        go_wp2_with fail
        go_ret
        exact ⟨by rw [HN.out]; rfl, by rw [HB.out.1]; exact HB.out.2.trans (HB2.out.mono (by omega))⟩
      · clear hR
        go_wp2_with fail
        refine (rcmp_is hp Ad.zero_ok _).mono ?_
        rintro e w3 ⟨rfl, hB3⟩
        have HB3 := Lib.hid (HB2.out.trans (hB3.mono HB2.out.size))
        clear hB3 k0 k1
        by_cases hz : p.a = Ad.zero
        · have HN : Hid (p.isNone = true) := isNone_iff.2 (by obtain ⟨a, l⟩ := p; subst hz hlen; rfl)
          have hc0 : cmpA p.a Ad.zero = 0 := (cmpA_zero hp Ad.zero_ok).2 hz
          rw [hc0]
          clear hz hlen hs hc0
          go_wp2_with fail
          go_ret
          exact ⟨by rw [HN.out]; rfl, by rw [HB.out.1]; exact HB.out.2.trans (HB3.out.mono (by omega))⟩
        · have HN : Hid (p.isNone = false) := isNone_no fun e => hz (by rw [e]; rfl)
          have hc0 : ¬ cmpA p.a Ad.zero = 0 := fun e => hz ((cmpA_zero hp Ad.zero_ok).1 e)
          generalize cmpA p.a Ad.zero = z at *
          have hzb : (z == 0) = false := by simpa using hc0
          clear hz hlen hs
          go_wp2_with fail
          go_ret
          exact ⟨by rw [HN.out]; rfl, by rw [HB.out.1]; exact HB.out.2.trans (HB3.out.mono (by omega))⟩
    · rw [hs] at k3
      have HN : Hid (p.isNone = false) := isNone_no fun e => by rw [e] at hs; cases hs
      clear hs
      go_wp2_with fail
      go_ret
      exact ⟨by rw [HN.out]; rfl, by rw [HB.out.1]; exact HB.out.2⟩
  · have HN : Hid (p.isNone = false) := isNone_no fun e => hlen (by rw [e]; rfl)
    generalize p.len = n at *
    have hzb : (n == 0) = false := by simpa using hlen
    go_wp2_with fail
    go_ret
    exact ⟨by rw [HN.out]; rfl, by rw [HB.out.1]; exact HB.out.2⟩

/-- Whether a prefix is right, and of a version. -/
def suitsB (v : Int) (p : Pf) : Bool := p.right && (p.isNone || decide (v = 0) || (decide (v = 6) == p.a.six))
set_option maxRecDepth 100000 in
theorem rsuits_is {p : Pf} (hp : p.a.Ok) (v : Int) (w : World) :
    Calls Try.prog 68 #[.agg p.arr, .int .i64 v] w fun e w' => e = .returned (.bool (suitsB v p)) ∧ Below w.heap.size w w' := by
  go_enter Try.func68, Try.ntmps68
  go_upto_region 1 with (fail)
  obtain ⟨hB, g0⟩ := one_box w p.arr 86
  generalize w.alloc (.cells p.arr 86) = w1 at *
  have hl := lt_of_obj g0
  have hr : w1.rangeAt w.heap.size 0 p.cs := range_block g0
  generalize hb : w.heap.size = b at *
  have HB := Lib.hid (And.intro hb hB)
  have HC : Hid (∀ w', Below w1.heap.size w1 w' → (loadRow 86 (.pointer (some ⟨b, 0, none⟩))).run Try.prog w' = .ok (.agg p.arr) w' ∧ w'.cell? ⟨b, 0, none⟩ = some (.bool p.a.six)) := fun w' hB' =>
    ⟨row_rp hp (range_below hr hl hB'), Ad.cSix (Pf.rA (range_below hr hl hB'))⟩
  clear hb hB g0 hr
  obtain ⟨k0, _⟩ := HC.out w1 (Below.refl _ _)
  go_wp2_with fail
  refine (rpright_is hp _).mono ?_
  rintro e w2 ⟨rfl, hB2⟩
  have HB2 := Lib.hid hB2
  clear k0
  obtain ⟨k0, _⟩ := HC.out w2 hB2
  clear hB2
  cases hR : p.right
  · go_wp2_with fail
    go_ret
    exact ⟨by rw [suitsB, hR]; rfl, by rw [HB.out.1]; exact HB.out.2.trans (HB2.out.mono (by omega))⟩
  · have HR := Lib.hid hR
    clear hR
    go_wp2_with fail
    refine (rnone_is hp _).mono ?_
    rintro e w3 ⟨rfl, hB3⟩
    have hB3' := HB2.out.trans (hB3.mono HB2.out.size)
    have HB3 := Lib.hid hB3'
    clear k0
    obtain ⟨k0, k1⟩ := HC.out w3 hB3'
    clear hB3 hB3'
    have hcs : (p.isNone = true) ∨ (p.isNone = false ∧ v = 0) ∨ (p.isNone = false ∧ ¬ v = 0 ∧ v = 6 ∧ p.a.six = true) ∨ (p.isNone = false ∧ ¬ v = 0 ∧ v = 6 ∧ p.a.six = false) ∨ (p.isNone = false ∧ ¬ v = 0 ∧ ¬ v = 6 ∧ p.a.six = true) ∨ (p.isNone = false ∧ ¬ v = 0 ∧ ¬ v = 6 ∧ p.a.six = false) := by
      cases p.isNone <;> cases p.a.six <;> simp <;> omega
    have HS : Hid (suitsB v p = (p.isNone || decide (v = 0) || (decide (v = 6) == p.a.six))) := by show suitsB v p = _; rw [suitsB, HR.out]; rfl
    rcases hcs with h1 | ⟨h1, h2⟩ | ⟨h1, h2, h3, h4⟩ | ⟨h1, h2, h3, h4⟩ | ⟨h1, h2, h3, h4⟩ | ⟨h1, h2, h3, h4⟩
    all_goals
      have HF := HS
      rw [h1] at HF ⊢
      try rw [h4] at k1 HF
      try (have hz0 : (v == 0) = false := by simpa using h2)
      try (have hz6 : (v == 6) = false := by simpa using h3)
      try subst h3
      try subst h2
      go_wp2_with fail
      go_ret
      exact ⟨by rw [HF.out]; simp_all, by rw [HB.out.1]; exact HB.out.2.trans (HB3.out.mono (by omega))⟩

set_option maxRecDepth 100000 in
theorem rports_is (lo hi n : Nat) (k : Ky) (w : World) :
    Calls Try.prog 71 #[.int .u16 lo, .int .u16 hi, .int .u16 n, .int .u8 k.proto] w fun e w' => e = .returned (.bool (portedB lo hi k n)) ∧ w' = w := by
  have hS : portedB lo hi k n = ((decide (lo = 0) && decide (hi = 65535)) || ((decide (k.proto = 6) || decide (k.proto = 17)) && (decide (lo ≤ n) && decide (n ≤ hi)))) := rfl
  have HS := Lib.hid hS
  clear hS
  generalize k.proto = q at *
  have hcs : (lo = 0 ∧ hi = 65535) ∨ (lo = 0 ∧ ¬ hi = 65535) ∨ (¬ lo = 0) := by omega
  have hq : q = 6 ∨ (¬ q = 6 ∧ q = 17) ∨ (¬ q = 6 ∧ ¬ q = 17) := by omega
  have hn : (lo ≤ n ∧ n ≤ hi) ∨ (lo ≤ n ∧ ¬ n ≤ hi) ∨ ¬ lo ≤ n := by omega
  rcases hcs with ⟨a1, a2⟩ | ⟨a1, a2⟩ | a1
  · subst a1 a2
    go_enter Try.func71, Try.ntmps71
    go_wp2_with fail
    go_ret
    exact ⟨by rw [HS.out]; rfl, rfl⟩
  all_goals
    rcases hq with b1 | ⟨b1, b2⟩ | ⟨b1, b2⟩ <;> rcases hn with ⟨c1, c2⟩ | ⟨c1, c2⟩ | c1
    all_goals
      have i1 : ((lo : Int) == 0) = decide (lo = 0) := by rw [Bool.eq_iff_iff]; simp
      have i2 : ((hi : Int) == 65535) = decide (hi = 65535) := by rw [Bool.eq_iff_iff]; simp; omega
      have i3 : ((q : Int) == 6) = decide (q = 6) := by rw [Bool.eq_iff_iff]; simp; omega
      have i4 : ((q : Int) == 17) = decide (q = 17) := by rw [Bool.eq_iff_iff]; simp; omega
      have i5 : ¬ lo = 0 ∨ ¬ hi = 65535 := by omega
      have HI := Lib.hid i5
      clear i5
      try simp only [a1, decide_true, decide_false] at i1
      try simp only [a2, decide_true, decide_false] at i2
      try simp only [b1, decide_true, decide_false] at i3
      try simp only [b2, decide_true, decide_false] at i4
      go_enter Try.func71, Try.ntmps71
      go_wp2_with fail
      go_ret
      exact ⟨by rw [HS.out]; simp_all <;> omega, rfl⟩
end Go.Proofs.Ytcbkcalemfminaa
