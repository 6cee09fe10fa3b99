/- Prefixes: right, whether they have an address, whether one lies within another: walked. -/
import Derived.Test.YtcbkcalemfminaaRu3
namespace Go.Proofs.Ytcbkcalemfminaa
open Go.RowKit
attribute [local go_sem ↓] load_ad load_pf load_ru load_ky load_bs build_pf

def Pf.right (p : Pf) : Bool := p.a.right && decide (p.a.cut p.len = p)
def Pf.has (p : Pf) (a : Ad) : Bool := p.right && a.right && decide (a.cut p.len = p)
def Pf.within (p q : Pf) : Bool := p.right && decide (q.len ≤ p.len) && q.has p.a

set_option maxRecDepth 100000 in
theorem pright_is {p : Pf} (hp : p.a.Ok) (w : World) :
    Calls Try.prog 43 #[.agg p.arr] w fun e w' => e = .returned (.bool p.right) ∧ Below w.heap.size w w' := by
  go_enter Try.func43, Try.ntmps43
  go_upto_region 1 with (fail)
  have hB : Below w.heap.size w (w.alloc (.cells p.arr 39)) := (Below.refl _ _).alloc (Nat.le_refl _) _
  have g0 := alloc_block_new w (.cells p.arr 39)
  generalize w.alloc (.cells p.arr 39) = w1 at *
  have hl := lt_of_obj g0
  have hr : w1.rangeAt w.heap.size 0 p.cs := range_block g0
  generalize hb : w.heap.size = b at *
  have HB := Lib.hid (And.intro hb hB)
  have k0 : ∀ z : Wld (fun x => Below w1.heap.size w1 x), (loadRow 25 (.pointer (some ⟨b, 0, none⟩))).run Try.prog z.w = .ok (.agg p.a.arr) z.w := fun z => row_ad hp (Pf.rA (range_below hr hl z.ok))
  have k1 : ∀ z : Wld (fun x => Below w1.heap.size w1 x), (loadRow 39 (.pointer (some ⟨b, 0, none⟩))).run Try.prog z.w = .ok (.agg p.arr) z.w := fun z => row_pf hp (range_below hr hl z.ok)
  have k2 : ∀ z : Wld (fun x => Below w1.heap.size w1 x), z.w.cell? ⟨b, 17, none⟩ = some (.int .i64 p.len) := fun z => by
    have := Pf.cLen hp (range_below hr hl z.ok)
    rw [Nat.zero_add] at this
    exact this
  have ke : ∀ w : World, (binOp .eql 39 (.agg (p.a.cut p.len).arr) (.agg p.arr)).run Try.prog w = .ok (.bool (decide (p.a.cut p.len = p))) w := eql_pf (Ad.cut_ok hp _) hp
  haveI hne : Nonempty (Wld (fun x => Below w1.heap.size w1 x)) := ⟨⟨w1, Below.refl _ _⟩⟩
  clear hb hB g0 hr
  cases hR : p.a.right with
  | _ =>
    refine region_class (fun x => Below w1.heap.size w1 x) (by kernel_rfl) (by kernel_rfl) (Below.refl _ _).drew ?_
    repeat (go_big_quiet_step ((rename_i z; first
      | (go_at_call 63; exact (right_is hp _).mono fun e w' ⟨he, hb⟩ => ⟨by rw [he, hR], ⟨w', z.ok.trans (hb.mono z.ok.size)⟩, rfl⟩)
      | (go_at_call 32; exact (cut_is hp _ _).mono fun e w' ⟨he, hb⟩ => ⟨he, ⟨w', z.ok.trans (hb.mono z.ok.size)⟩, rfl⟩))))
    refine wpQuiet_nil ?_
    intro w2 hB2
    have hBf := HB.out.2.trans (hB2.mono (by omega))
    go_wp2_with fail
    go_ret
    exact ⟨by rw [Pf.right, hR]; first | rfl | simp, by rw [HB.out.1]; exact hBf⟩

set_option maxRecDepth 100000 in
theorem has_is {p : Pf} {a : Ad} (hp : p.a.Ok) (ha : a.Ok) (w : World) :
    Calls Try.prog 52 #[.agg p.arr, .agg a.arr] w fun e w' => e = .returned (.bool (p.has a)) ∧ Below w.heap.size w w' := by
  go_enter Try.func52, Try.ntmps52
  go_upto_region 1 with (fail)
  have hB : Below w.heap.size w ((w.alloc (.cells p.arr 39)).alloc (.cells a.arr 25)) := ((Below.refl _ _).alloc (Nat.le_refl _) _).alloc (by simp) _
  have g0 : ((w.alloc (.cells p.arr 39)).alloc (.cells a.arr 25)).heap[w.heap.size]? = some (.cells p.arr 39 (0, 0)) := (alloc_block_old _ (by simp)).trans (alloc_block_new w _)
  have g1 : ((w.alloc (.cells p.arr 39)).alloc (.cells a.arr 25)).heap[w.heap.size + 1]? = some (.cells a.arr 25 (0, 0)) := alloc_block_at _ _ (by simp)
  generalize (w.alloc (.cells p.arr 39)).alloc (.cells a.arr 25) = w1 at *
  have hl := lt_of_obj g0
  have hl1 := lt_of_obj g1
  have hr : w1.rangeAt w.heap.size 0 p.cs := range_block g0
  have hr1 : w1.rangeAt (w.heap.size + 1) 0 a.cs := range_block g1
  generalize hb : w.heap.size = b at *
  have HB := Lib.hid (And.intro hb hB)
  have k0 : ∀ z : Wld (fun x => Below w1.heap.size w1 x), (loadRow 25 (.pointer (some ⟨b + 1, 0, none⟩))).run Try.prog z.w = .ok (.agg a.arr) z.w := fun z => row_ad ha (range_below hr1 hl1 z.ok)
  have k1 : ∀ z : Wld (fun x => Below w1.heap.size w1 x), (loadRow 39 (.pointer (some ⟨b, 0, none⟩))).run Try.prog z.w = .ok (.agg p.arr) z.w := fun z => row_pf hp (range_below hr hl z.ok)
  have k2 : ∀ z : Wld (fun x => Below w1.heap.size w1 x), z.w.cell? ⟨b, 17, none⟩ = some (.int .i64 p.len) := fun z => by
    have := Pf.cLen hp (range_below hr hl z.ok)
    rw [Nat.zero_add] at this
    exact this
  have ke : ∀ w : World, (binOp .eql 39 (.agg (a.cut p.len).arr) (.agg p.arr)).run Try.prog w = .ok (.bool (decide (a.cut p.len = p))) w := eql_pf (Ad.cut_ok ha _) hp
  haveI hne : Nonempty (Wld (fun x => Below w1.heap.size w1 x)) := ⟨⟨w1, Below.refl _ _⟩⟩
  clear hb hB g0 g1 hr hr1
  cases hR : p.right with
  | _ =>
    cases hA : a.right with
    | _ =>
      refine region_class (fun x => Below w1.heap.size w1 x) (by kernel_rfl) (by kernel_rfl) (Below.refl _ _).drew ?_
      repeat (go_big_quiet_step ((rename_i z; first
        | (go_at_call 63; exact (right_is ha _).mono fun e w' ⟨he, hb⟩ => ⟨by rw [he, hA], ⟨w', z.ok.trans (hb.mono z.ok.size)⟩, rfl⟩)
        | (go_at_call 43; exact (pright_is hp _).mono fun e w' ⟨he, hb⟩ => ⟨by rw [he, hR], ⟨w', z.ok.trans (hb.mono z.ok.size)⟩, rfl⟩)
        | (go_at_call 32; exact (cut_is ha _ _).mono fun e w' ⟨he, hb⟩ => ⟨he, ⟨w', z.ok.trans (hb.mono z.ok.size)⟩, rfl⟩))))
      refine wpQuiet_nil ?_
      intro w2 hB2
      have hBf := HB.out.2.trans (hB2.mono (by omega))
      go_wp2_with fail
      go_ret
      exact ⟨by rw [Pf.has, hR, hA]; first | rfl | simp, by rw [HB.out.1]; exact hBf⟩

set_option maxRecDepth 100000 in
theorem within_is {p q : Pf} (hp : p.a.Ok) (hq : q.a.Ok) (w : World) :
    Calls Try.prog 72 #[.agg p.arr, .agg q.arr] w fun e w' => e = .returned (.bool (p.within q)) ∧ Below w.heap.size w w' := by
  go_enter Try.func72, Try.ntmps72
  go_upto_region 1 with (fail)
  have hB : Below w.heap.size w ((w.alloc (.cells p.arr 39)).alloc (.cells q.arr 39)) := ((Below.refl _ _).alloc (Nat.le_refl _) _).alloc (by simp) _
  have g0 : ((w.alloc (.cells p.arr 39)).alloc (.cells q.arr 39)).heap[w.heap.size]? = some (.cells p.arr 39 (0, 0)) := (alloc_block_old _ (by simp)).trans (alloc_block_new w _)
  have g1 : ((w.alloc (.cells p.arr 39)).alloc (.cells q.arr 39)).heap[w.heap.size + 1]? = some (.cells q.arr 39 (0, 0)) := alloc_block_at _ _ (by simp)
  generalize (w.alloc (.cells p.arr 39)).alloc (.cells q.arr 39) = w1 at *
  have hl := lt_of_obj g0
  have hl1 := lt_of_obj g1
  have hr : w1.rangeAt w.heap.size 0 p.cs := range_block g0
  have hr1 : w1.rangeAt (w.heap.size + 1) 0 q.cs := range_block g1
  generalize hb : w.heap.size = b at *
  have HR := Lib.hid (And.intro hr hr1)
  have HB := Lib.hid (And.intro hb hB)
  have HP : Hid (∀ w', Below w1.heap.size w1 w' → (loadRow 39 (.pointer (some ⟨b, 0, none⟩))).run Try.prog w' = .ok (.agg p.arr) w' ∧ (loadRow 39 (.pointer (some ⟨b + 1, 0, none⟩))).run Try.prog w' = .ok (.agg q.arr) w' ∧ (loadRow 25 (.pointer (some ⟨b, 0, none⟩))).run Try.prog w' = .ok (.agg p.a.arr) w' ∧ w'.cell? ⟨b, 17, none⟩ = some (.int .i64 p.len) ∧ w'.cell? ⟨b + 1, 17, none⟩ = some (.int .i64 q.len)) := fun w' hB' =>
    ⟨row_pf hp (range_below hr hl hB'), row_pf hq (range_below hr1 hl1 hB'), row_ad hp (Pf.rA (range_below hr hl hB')), by
      have := Pf.cLen hp (range_below hr hl hB')
      rw [Nat.zero_add] at this
      exact this, by
      have := Pf.cLen hq (range_below hr1 hl1 hB')
      rw [Nat.zero_add] at this
      exact this⟩
  clear hb hB g0 g1 hr hr1
  obtain ⟨k0, _⟩ := HP.out w1 (Below.refl _ _)
  go_wp2_with fail
  refine (pright_is hp _).mono ?_
  rintro e w2 ⟨rfl, hB2⟩
  have HB2 := Lib.hid hB2
  clear k0 hB2
  cases hR : p.right with
  | false =>
    go_wp2_with fail
    go_ret
    exact ⟨by rw [Pf.within, hR]; rfl, by rw [HB.out.1]; exact HB.out.2.trans (HB2.out.mono (by omega))⟩
  | true =>
    obtain ⟨k0, k1, k2, k3, k4⟩ := HP.out w2 HB2.out
    by_cases hlen : q.len ≤ p.len
    · go_wp2_with fail
      refine (has_is hq hp _).mono ?_
      rintro e w3 ⟨rfl, hB3⟩
      have HB3 := Lib.hid (HB2.out.trans (hB3.mono HB2.out.size))
      clear hB3 k0 k1 k2 k3 k4
      go_wp2_with fail
      go_ret
      exact ⟨by rw [Pf.within, hR, decide_eq_true hlen]; rfl, by rw [HB.out.1]; exact HB.out.2.trans (HB3.out.mono (by omega))⟩
    · go_wp2_with fail
      go_ret
      exact ⟨by rw [Pf.within, hR, decide_eq_false (show ¬ q.len ≤ p.len by omega)]; rfl, by rw [HB.out.1]; exact HB.out.2.trans (HB2.out.mono (by omega))⟩
end Go.Proofs.Ytcbkcalemfminaa
