/- The reference's prefixes: right, whether they have an address, whether one lies within another; addresses in order: walked. -/
import Derived.Test.YtcbkcalemfminaaRr4
import Derived.Test.YtcbkcalemfminaaRu5
namespace Go.Proofs.Ytcbkcalemfminaa
open Go.RowKit
attribute [local go_sem ↓] load_ra load_rp build_ra build_rp

theorem eq_ra {d : Nat} {a c : Ad} (ha : a.Ok) (hc : c.Ok) (w : World) :
    (Op.equalIn (d + 3) 77 (.agg a.arr) (.agg c.arr)).run Try.prog w = .ok (decide (a = c)) w := by
  have h1 : a.arr.extract 1 17 = (u8s a.bs).toArray := by
    unfold Ad.arr Ad.cs
    simp [List.take_of_length_le, u8s_len, ha.1]
  have h2 : c.arr.extract 1 17 = (u8s c.bs).toArray := by
    unfold Ad.arr Ad.cs
    simp [List.take_of_length_le, u8s_len, hc.1]
  have g1 : a.arr[0]? = some (.bool a.six) := by simp [Ad.arr, Ad.cs]
  have g2 : c.arr[0]? = some (.bool c.six) := by simp [Ad.arr, Ad.cs]
  have e := eq_bytes (d := d) ha hc w
  simp [go_sem, part, h1, h2, g1, g2, e]
  obtain ⟨s1, l1⟩ := a
  obtain ⟨s2, l2⟩ := c
  simp only [Ad.mk.injEq]
  by_cases e1 : s1 = s2 <;> by_cases e2 : l1 = l2 <;> simp [e1, e2]

theorem eq_rp {d : Nat} {p q : Pf} (hp : p.a.Ok) (hq : q.a.Ok) (w : World) :
    (Op.equalIn (d + 4) 86 (.agg p.arr) (.agg q.arr)).run Try.prog w = .ok (decide (p = q)) w := by
  have h1 : ∀ {p : Pf}, p.a.Ok → p.arr.extract 0 17 = p.a.arr := fun {p} h => by
    unfold Pf.arr Pf.cs Ad.arr
    simp [h.len]
  have h2 : ∀ {p : Pf}, p.a.Ok → p.arr[17]? = some (.int .i64 p.len) := fun {p} h => by
    unfold Pf.arr Pf.cs
    simp [List.getElem?_append_right, h.len]
  have h3 : ∀ {a : Ad}, a.Ok → a.arr.extract 1 17 = (u8s a.bs).toArray := fun {a} h => by
    unfold Ad.arr Ad.cs
    simp [List.take_of_length_le, u8s_len, h.1]
  have h4 : ∀ {a : Ad}, a.arr[0]? = some (.bool a.six) := fun {a} => by simp [Ad.arr, Ad.cs]
  have e := eq_bytes (d := d) hp hq w
  simp [go_sem, part, h1 hp, h1 hq, h2 hp, h2 hq, h3 hp, h3 hq, h4, e]
  obtain ⟨⟨s1, b1⟩, l1⟩ := p
  obtain ⟨⟨s2, b2⟩, l2⟩ := q
  simp only [Pf.mk.injEq, Ad.mk.injEq]
  by_cases e1 : s1 = s2 <;> by_cases e2 : b1 = b2 <;> by_cases e3 : l1 = l2 <;> simp [e1, e2, e3]

theorem eql_rp {p q : Pf} (hp : p.a.Ok) (hq : q.a.Ok) (w : World) : (binOp .eql 86 (.agg p.arr) (.agg q.arr)).run Try.prog w = .ok (.bool (decide (p = q))) w := by
  rw [run_eql_struct, eq_rp (d := 9996) hp hq]
  rfl

set_option maxRecDepth 100000 in
theorem rpright_is {p : Pf} (hp : p.a.Ok) (w : World) :
    Calls Try.prog 75 #[.agg p.arr] w fun e w' => e = .returned (.bool p.right) ∧ Below w.heap.size w w' := by
  go_enter Try.func75, Try.ntmps75
  go_upto_region 1 with (fail)
  have hB : Below w.heap.size w (w.alloc (.cells p.arr 86)) := (Below.refl _ _).alloc (Nat.le_refl _) _
  have g0 := alloc_block_new w (.cells p.arr 86)
  generalize w.alloc (.cells p.arr 86) = w1 at *
  have hl := lt_of_obj g0
  have hr : w1.rangeAt w.heap.size 0 p.cs := range_block g0
  generalize hb : w.heap.size = b at *
  have HB := Lib.hid (And.intro hb hB)
  have k0 : ∀ z : Wld (fun x => Below w1.heap.size w1 x), (loadRow 77 (.pointer (some ⟨b, 0, none⟩))).run Try.prog z.w = .ok (.agg p.a.arr) z.w := fun z => row_ra hp (Pf.rA (range_below hr hl z.ok))
  have k1 : ∀ z : Wld (fun x => Below w1.heap.size w1 x), (loadRow 86 (.pointer (some ⟨b, 0, none⟩))).run Try.prog z.w = .ok (.agg p.arr) z.w := fun z => row_rp hp (range_below hr hl z.ok)
  have k2 : ∀ z : Wld (fun x => Below w1.heap.size w1 x), z.w.cell? ⟨b, 17, none⟩ = some (.int .i64 p.len) := fun z => by
    have := Pf.cLen hp (range_below hr hl z.ok)
    rw [Nat.zero_add] at this
    exact this
  have ke : ∀ w : World, (binOp .eql 86 (.agg (p.a.cut p.len).arr) (.agg p.arr)).run Try.prog w = .ok (.bool (decide (p.a.cut p.len = p))) w := eql_rp (Ad.cut_ok hp _) hp
  haveI hne : Nonempty (Wld (fun x => Below w1.heap.size w1 x)) := ⟨⟨w1, Below.refl _ _⟩⟩
  clear hb hB g0 hr
  cases hR : p.a.right with
  | _ =>
    refine region_class (fun x => Below w1.heap.size w1 x) (by kernel_rfl) (by kernel_rfl) (Below.refl _ _).drew ?_
    repeat (go_big_quiet_step ((rename_i z; first
      | (go_at_call 77; exact (r4right_is hp _).mono fun e w' ⟨he, hb⟩ => ⟨by rw [he, hR], ⟨w', z.ok.trans (hb.mono z.ok.size)⟩, rfl⟩)
      | (go_at_call 78; exact (rcut_is hp _ _).mono fun e w' ⟨he, hb⟩ => ⟨he, ⟨w', z.ok.trans (hb.mono z.ok.size)⟩, rfl⟩))))
    refine wpQuiet_nil ?_
    intro w2 hB2
    have hBf := HB.out.2.trans (hB2.mono (by omega))
    go_wp2_with fail
    go_ret
    exact ⟨by rw [Pf.right, hR]; first | rfl | simp, by rw [HB.out.1]; exact hBf⟩

set_option maxRecDepth 100000 in
theorem rhas_is {p : Pf} {a : Ad} (hp : p.a.Ok) (ha : a.Ok) (w : World) :
    Calls Try.prog 70 #[.agg p.arr, .agg a.arr] w fun e w' => e = .returned (.bool (p.has a)) ∧ Below w.heap.size w w' := by
  go_enter Try.func70, Try.ntmps70
  go_upto_region 1 with (fail)
  have hB : Below w.heap.size w ((w.alloc (.cells p.arr 86)).alloc (.cells a.arr 77)) := ((Below.refl _ _).alloc (Nat.le_refl _) _).alloc (by simp) _
  have g0 : ((w.alloc (.cells p.arr 86)).alloc (.cells a.arr 77)).heap[w.heap.size]? = some (.cells p.arr 86 (0, 0)) := (alloc_block_old _ (by simp)).trans (alloc_block_new w _)
  have g1 : ((w.alloc (.cells p.arr 86)).alloc (.cells a.arr 77)).heap[w.heap.size + 1]? = some (.cells a.arr 77 (0, 0)) := alloc_block_at _ _ (by simp)
  generalize (w.alloc (.cells p.arr 86)).alloc (.cells a.arr 77) = w1 at *
  have hl := lt_of_obj g0
  have hl1 := lt_of_obj g1
  have hr : w1.rangeAt w.heap.size 0 p.cs := range_block g0
  have hr1 : w1.rangeAt (w.heap.size + 1) 0 a.cs := range_block g1
  generalize hb : w.heap.size = b at *
  have HB := Lib.hid (And.intro hb hB)
  have k0 : ∀ z : Wld (fun x => Below w1.heap.size w1 x), (loadRow 77 (.pointer (some ⟨b + 1, 0, none⟩))).run Try.prog z.w = .ok (.agg a.arr) z.w := fun z => row_ra ha (range_below hr1 hl1 z.ok)
  have k1 : ∀ z : Wld (fun x => Below w1.heap.size w1 x), (loadRow 86 (.pointer (some ⟨b, 0, none⟩))).run Try.prog z.w = .ok (.agg p.arr) z.w := fun z => row_rp hp (range_below hr hl z.ok)
  have k2 : ∀ z : Wld (fun x => Below w1.heap.size w1 x), z.w.cell? ⟨b, 17, none⟩ = some (.int .i64 p.len) := fun z => by
    have := Pf.cLen hp (range_below hr hl z.ok)
    rw [Nat.zero_add] at this
    exact this
  have ke : ∀ w : World, (binOp .eql 86 (.agg (a.cut p.len).arr) (.agg p.arr)).run Try.prog w = .ok (.bool (decide (a.cut p.len = p))) w := eql_rp (Ad.cut_ok ha _) hp
  have k3 : ∀ z : Wld (fun x => Below w1.heap.size w1 x), z.w.cell? ⟨b + 1, 0, none⟩ = some (.bool a.six) := fun z => Ad.cSix (range_below hr1 hl1 z.ok)
  have k4 : ∀ z : Wld (fun x => Below w1.heap.size w1 x), z.w.cell? ⟨b, 0, none⟩ = some (.bool p.a.six) := fun z => Ad.cSix (Pf.rA (range_below hr hl z.ok))
  haveI hne : Nonempty (Wld (fun x => Below w1.heap.size w1 x)) := ⟨⟨w1, Below.refl _ _⟩⟩
  clear hb hB g0 g1 hr hr1
  have hne2 : a.six ≠ p.a.six → a.right = true → a.cut p.len ≠ p := fun h1 h2 e => h1 (by rw [← e]; unfold Ad.cut; rw [if_pos h2])
  have HNE := Lib.hid hne2
  clear hne2
  have hc : (p.right = false) ∨ (p.right = true ∧ a.right = false) ∨ (p.right = true ∧ a.right = true ∧ a.six = false ∧ p.a.six = true) ∨ (p.right = true ∧ a.right = true ∧ a.six = true ∧ p.a.six = false) ∨ (p.right = true ∧ a.right = true ∧ a.six = true ∧ p.a.six = true) ∨ (p.right = true ∧ a.right = true ∧ a.six = false ∧ p.a.six = false) := by
    cases p.right <;> cases a.right <;> cases a.six <;> cases p.a.six <;> simp
  rcases hc with hR | ⟨hR, hA⟩ | ⟨hR, hA, h1, h2⟩ | ⟨hR, hA, h1, h2⟩ | ⟨hR, hA, h1, h2⟩ | ⟨hR, hA, h1, h2⟩
  all_goals
    try rw [h1] at k3
    try rw [h2] at k4
    refine region_class (fun x => Below w1.heap.size w1 x) (by kernel_rfl) (by kernel_rfl) (Below.refl _ _).drew ?_
    repeat (go_big_quiet_step ((rename_i z; first
      | (go_at_call 77; exact (r4right_is ha _).mono fun e w' ⟨he, hb⟩ => ⟨by rw [he, hA], ⟨w', z.ok.trans (hb.mono z.ok.size)⟩, rfl⟩)
      | (go_at_call 75; exact (rpright_is hp _).mono fun e w' ⟨he, hb⟩ => ⟨by rw [he, hR], ⟨w', z.ok.trans (hb.mono z.ok.size)⟩, rfl⟩)
      | (go_at_call 78; exact (rcut_is ha _ _).mono fun e w' ⟨he, hb⟩ => ⟨he, ⟨w', z.ok.trans (hb.mono z.ok.size)⟩, rfl⟩))))
    refine wpQuiet_nil ?_
    intro w2 hB2
    have hBf := HB.out.2.trans (hB2.mono (by omega))
    go_wp2_with fail
    go_ret
    exact ⟨by first | (rw [Pf.has, hR]; rfl) | (rw [Pf.has, hR, hA]; rfl) | (rw [Pf.has, hR, hA, decide_eq_false (HNE.out (by rw [h1, h2]; decide) hA)]; rfl) | (rw [Pf.has, hR, hA]; simp), by rw [HB.out.1]; exact hBf⟩

set_option maxRecDepth 100000 in
theorem rwithin_is {p q : Pf} (hp : p.a.Ok) (hq : q.a.Ok) (w : World) :
    Calls Try.prog 79 #[.agg p.arr, .agg q.arr] w fun e w' => e = .returned (.bool (p.within q)) ∧ Below w.heap.size w w' := by
  go_enter Try.func79, Try.ntmps79
  go_upto_region 1 with (fail)
  have hB : Below w.heap.size w ((w.alloc (.cells p.arr 86)).alloc (.cells q.arr 86)) := ((Below.refl _ _).alloc (Nat.le_refl _) _).alloc (by simp) _
  have g0 : ((w.alloc (.cells p.arr 86)).alloc (.cells q.arr 86)).heap[w.heap.size]? = some (.cells p.arr 86 (0, 0)) := (alloc_block_old _ (by simp)).trans (alloc_block_new w _)
  have g1 : ((w.alloc (.cells p.arr 86)).alloc (.cells q.arr 86)).heap[w.heap.size + 1]? = some (.cells q.arr 86 (0, 0)) := alloc_block_at _ _ (by simp)
  generalize (w.alloc (.cells p.arr 86)).alloc (.cells q.arr 86) = w1 at *
  have hl := lt_of_obj g0
  have hl1 := lt_of_obj g1
  have hr : w1.rangeAt w.heap.size 0 p.cs := range_block g0
  have hr1 : w1.rangeAt (w.heap.size + 1) 0 q.cs := range_block g1
  generalize hb : w.heap.size = b at *
  have HR := Lib.hid (And.intro hr hr1)
  have HB := Lib.hid (And.intro hb hB)
  have HP : Hid (∀ w', Below w1.heap.size w1 w' → (loadRow 86 (.pointer (some ⟨b, 0, none⟩))).run Try.prog w' = .ok (.agg p.arr) w' ∧ (loadRow 86 (.pointer (some ⟨b + 1, 0, none⟩))).run Try.prog w' = .ok (.agg q.arr) w' ∧ (loadRow 77 (.pointer (some ⟨b, 0, none⟩))).run Try.prog w' = .ok (.agg p.a.arr) w' ∧ w'.cell? ⟨b, 17, none⟩ = some (.int .i64 p.len) ∧ w'.cell? ⟨b + 1, 17, none⟩ = some (.int .i64 q.len)) := fun w' hB' =>
    ⟨row_rp hp (range_below hr hl hB'), row_rp hq (range_below hr1 hl1 hB'), row_ra hp (Pf.rA (range_below hr hl hB')), by
      have := Pf.cLen hp (range_below hr hl hB')
      rw [Nat.zero_add] at this
      exact this, by
      have := Pf.cLen hq (range_below hr1 hl1 hB')
      rw [Nat.zero_add] at this
      exact this⟩
  clear hb hB g0 g1 hr hr1
  obtain ⟨k0, _⟩ := HP.out w1 (Below.refl _ _)
  go_wp2_with fail
  refine (rpright_is hp _).mono ?_
  rintro e w2 ⟨rfl, hB2⟩
  have HB2 := Lib.hid hB2
  clear k0 hB2
  cases hR : p.right with
  | false =>
    go_wp2_with fail
    go_ret
    exact ⟨by rw [Pf.within, hR]; rfl, by rw [HB.out.1]; exact HB.out.2.trans (HB2.out.mono (by omega))⟩
  | true =>
    obtain ⟨k0, k1, k2, k3, k4⟩ := HP.out w2 HB2.out
    by_cases hlen : q.len ≤ p.len
    · go_wp2_with fail
      refine (rhas_is hq hp _).mono ?_
      rintro e w3 ⟨rfl, hB3⟩
      have HB3 := Lib.hid (HB2.out.trans (hB3.mono HB2.out.size))
      clear hB3 k0 k1 k2 k3 k4
      go_wp2_with fail
      go_ret
      exact ⟨by rw [Pf.within, hR, decide_eq_true hlen]; rfl, by rw [HB.out.1]; exact HB.out.2.trans (HB3.out.mono (by omega))⟩
    · go_wp2_with fail
      go_ret
      exact ⟨by rw [Pf.within, hR, decide_eq_false (show ¬ q.len ≤ p.len by omega)]; rfl, by rw [HB.out.1]; exact HB.out.2.trans (HB2.out.mono (by omega))⟩

/-- Bytes in order. -/
def cmpL : List Nat → List Nat → Int
  | x :: xs, y :: ys => if x < y then -1 else if y < x then 1 else cmpL xs ys
  | _, _ => 0
/-- Addresses in order. -/
def cmpA (a b : Ad) : Int := if a.six = b.six then cmpL a.bs b.bs else if b.six = true then -1 else 1
theorem cmpL_zero : ∀ {xs ys : List Nat}, xs.length = ys.length → (cmpL xs ys = 0 ↔ xs = ys)
  | [], [], _ => by simp [cmpL]
  | [], _ :: _, h => by simp at h
  | _ :: _, [], h => by simp at h
  | x :: xs, y :: ys, h => by
    have ih := cmpL_zero (xs := xs) (ys := ys) (by simpa using h)
    unfold cmpL
    by_cases h1 : x < y
    · rw [if_pos h1]
      simp
      omega
    · rw [if_neg h1]
      by_cases h2 : y < x
      · rw [if_pos h2]
        simp
        omega
      · rw [if_neg h2, ih, show x = y by omega]
        simp
theorem cmpA_zero {a b : Ad} (ha : a.Ok) (hb : b.Ok) : cmpA a b = 0 ↔ a = b := by
  obtain ⟨s1, l1⟩ := a
  obtain ⟨s2, l2⟩ := b
  unfold cmpA
  simp only [Ad.mk.injEq]
  by_cases h : s1 = s2
  · rw [if_pos h, cmpL_zero (by rw [ha.1, hb.1])]
    simp [h]
  · rw [if_neg h]
    cases s2 <;> simp [h]
theorem drop_cons {bs : List Nat} (h : bs.length = 16) {k : Nat} (hk : k < 16) : bs.drop k = bs.getD k 0 :: bs.drop (k + 1) := by
  rw [List.drop_eq_getElem_cons (by omega)]
  congr 1
  rw [List.getD_eq_getElem?_getD, List.getElem?_eq_getElem (by omega)]
  rfl
/-- Ahead of each byte of two. -/
def CmRel (W : World) (a c : Ad) (i : Value) (w : World) : Prop :=
  ∃ k : Nat, i = .int .i64 k ∧ k ≤ 16 ∧ Below W.heap.size W w ∧ cmpL a.bs c.bs = cmpL (a.bs.drop k) (c.bs.drop k)
set_option maxRecDepth 100000 in
theorem rcmp_is {a c : Ad} (ha : a.Ok) (hc : c.Ok) (w : World) :
    Calls Try.prog 76 #[.agg a.arr, .agg c.arr] w fun e w' => e = .returned (.int .i64 (cmpA a c)) ∧ Below w.heap.size w w' := by
  go_enter Try.func76, Try.ntmps76
  go_upto_region 1 with (fail)
  obtain ⟨hB, g0, g1⟩ := two_boxes w a.arr c.arr 77 77
  generalize (w.alloc (.cells a.arr 77)).alloc (.cells c.arr 77) = w1 at *
  have hr0 := range_block g0
  have hr1 := range_block g1
  have h6 := Ad.cSix hr0
  have h7 := Ad.cSix hr1
  have hl0 := lt_of_obj g0
  have hl1 := lt_of_obj g1
  have HR := Lib.hid (And.intro hr0 (And.intro hr1 hB))
  generalize hb : w.heap.size = b at *
  have HBb := Lib.hid hb
  clear hB hb g0 g1 hr0 hr1
  have hcs : (a.six = true ∧ c.six = false) ∨ (a.six = false ∧ c.six = true) ∨ (a.six = c.six) := by cases a.six <;> cases c.six <;> simp
  rcases hcs with ⟨e1, e2⟩ | ⟨e1, e2⟩ | e1
  · rw [e1] at h6
    rw [e2] at h7
    have HF : Hid (cmpA a c = 1) := by unfold cmpA; rw [e1, e2]; rfl
    clear e1 e2
    go_wp2_with fail
    go_ret
    exact ⟨by rw [HF.out]; rfl, by rw [HBb.out]; exact HR.out.2.2⟩
  · rw [e1] at h6
    rw [e2] at h7
    have HF : Hid (cmpA a c = -1) := by unfold cmpA; rw [e1, e2]; rfl
    clear e1 e2
    go_wp2_with fail
    go_ret
    exact ⟨by rw [HF.out]; rfl, by rw [HBb.out]; exact HR.out.2.2⟩
  · rw [e1] at h6
    have HF : Hid (cmpA a c = cmpL a.bs c.bs) := by show cmpA a c = _; unfold cmpA; rw [if_pos e1]
    clear e1
    generalize c.six = s at *
    go_wp2_with fail
    go_loopw [5] (CmRel w1 a c) (fun i _ => 16 - (intOf i).toNat)
    case atStart => exact ⟨0, rfl, Nat.zero_le _, Below.refl _ _, rfl⟩
    case round =>
      clear h6 h7
      obtain ⟨k, rfl, hk, hB, hcm⟩ := hrel
      by_cases hlt : k < 16
      · have y0 := Ad.cB ha (range_below HR.out.1 hl0 hB) hlt
        have y1 := Ad.cB hc (range_below HR.out.2.1 hl1 hB) hlt
        have hki : (k : Int) < 16 := by omega
        rw [drop_cons ha.1 hlt, drop_cons hc.1 hlt] at hcm
        generalize a.bs.getD k 0 = x at *
        generalize c.bs.getD k 0 = y at *
        have hcm2 : cmpL a.bs c.bs = if x < y then -1 else if y < x then 1 else cmpL (a.bs.drop (k + 1)) (c.bs.drop (k + 1)) := hcm
        have HC := Lib.hid (And.intro hB hcm2)
        clear hB hcm hcm2
        have hxy : x < y ∨ (¬ x < y ∧ y < x) ∨ (¬ x < y ∧ ¬ y < x) := by omega
        rcases hxy with h1 | ⟨h1, h2⟩ | ⟨h1, h2⟩
        · go_wp2_with fail
          go_region
          all_goals
            go_wp2_with fail
            go_ret
            exact ⟨by rw [HF.out, HC.out.2, if_pos h1]; rfl, by rw [HBb.out]; exact HR.out.2.2.trans ((HC.out.1.drew).mono (by omega))⟩
        · go_wp2_with fail
          go_region
          all_goals
            go_wp2_with fail
            go_region
            all_goals
              go_wp2_with fail
              go_ret
              exact ⟨by rw [HF.out, HC.out.2, if_neg h1, if_pos h2]; rfl, by rw [HBb.out]; exact HR.out.2.2.trans ((HC.out.1.drew.drew).mono (by omega))⟩
        · have HN : Hid (CmRel w1 a c (.int .i64 (k + 1 : Nat)) wr.drew.drew) := ⟨k + 1, rfl, by omega, HC.out.1.drew.drew, by rw [HC.out.2, if_neg h1, if_neg h2]⟩
          go_wp2_with fail
          go_region
          all_goals
            go_wp2_with fail
            go_region
            all_goals
              go_wp2_with fail
              go_roundw
              case rel => exact HN.out
              case measure => simp [intOf]; omega
      · obtain rfl : k = 16 := by omega
        have HZ : Hid (cmpL a.bs c.bs = 0) := by
          rw [hcm, List.drop_eq_nil_of_le (by rw [ha.1]; exact Nat.le_refl _)]
          rfl
        have HBk := Lib.hid hB
        clear hcm hB
        go_wp2_with fail
        go_ret
        exact ⟨by rw [HF.out, HZ.out]; rfl, by rw [HBb.out]; exact HR.out.2.2.trans (HBk.out.mono (by omega))⟩
end Go.Proofs.Ytcbkcalemfminaa
