/- What a rule and a key hold, place by place; versions, ports: walked. -/
import Derived.Test.YtcbkcalemfminaaRu4
namespace Go.Proofs.Ytcbkcalemfminaa
open Go.RowKit
attribute [local go_sem ↓] load_ad load_pf load_ru load_ky load_bs build_pf

section
variable {w : World} {b : Nat}
theorem Ru.rSrc {r : Ru} (h : w.rangeAt b 0 r.cs) : w.rangeAt b 2 r.src.cs := by
  have := range_part (xs := [.int .i64 r.ver, .int .i64 r.proto]) (ys := r.src.cs) (zs := r.dst.cs ++ [.int .u16 r.slo, .int .u16 r.shi, .int .u16 r.dlo, .int .u16 r.dhi, .bool r.deny, .int .i64 r.cls]) (n := 2) (by simpa [Ru.cs] using h) rfl
  simpa using this
theorem Ru.rDst {r : Ru} (hr : r.Ok) (h : w.rangeAt b 0 r.cs) : w.rangeAt b 20 r.dst.cs := by
  have := range_part (xs := [.int .i64 r.ver, .int .i64 r.proto] ++ r.src.cs) (ys := r.dst.cs) (zs := [.int .u16 r.slo, .int .u16 r.shi, .int .u16 r.dlo, .int .u16 r.dhi, .bool r.deny, .int .i64 r.cls]) (n := 20) (by simpa [Ru.cs] using h) (by simp [Pf.len_cs hr.s])
  simpa using this
theorem Ru.rTail {r : Ru} (hr : r.Ok) (h : w.rangeAt b 0 r.cs) : w.rangeAt b 38 [.int .u16 r.slo, .int .u16 r.shi, .int .u16 r.dlo, .int .u16 r.dhi, .bool r.deny, .int .i64 r.cls] := by
  have := range_part (xs := [.int .i64 r.ver, .int .i64 r.proto] ++ r.src.cs ++ r.dst.cs) (ys := [.int .u16 r.slo, .int .u16 r.shi, .int .u16 r.dlo, .int .u16 r.dhi, .bool r.deny, .int .i64 r.cls]) (zs := []) (n := 38) (by simpa [Ru.cs] using h) (by simp [Pf.len_cs hr.s, Pf.len_cs hr.d])
  simpa using this
theorem Ru.c0 {r : Ru} (h : w.rangeAt b 0 r.cs) : w.cell? ⟨b, 0, none⟩ = some (.int .i64 r.ver) := h 0 _ rfl
theorem Ru.c1 {r : Ru} (h : w.rangeAt b 0 r.cs) : w.cell? ⟨b, 1, none⟩ = some (.int .i64 r.proto) := h 1 _ rfl
theorem Ru.c38 {r : Ru} (hr : r.Ok) (h : w.rangeAt b 0 r.cs) : w.cell? ⟨b, 38, none⟩ = some (.int .u16 r.slo) := Ru.rTail hr h 0 _ rfl
theorem Ru.c39 {r : Ru} (hr : r.Ok) (h : w.rangeAt b 0 r.cs) : w.cell? ⟨b, 39, none⟩ = some (.int .u16 r.shi) := Ru.rTail hr h 1 _ rfl
theorem Ru.c40 {r : Ru} (hr : r.Ok) (h : w.rangeAt b 0 r.cs) : w.cell? ⟨b, 40, none⟩ = some (.int .u16 r.dlo) := Ru.rTail hr h 2 _ rfl
theorem Ru.c41 {r : Ru} (hr : r.Ok) (h : w.rangeAt b 0 r.cs) : w.cell? ⟨b, 41, none⟩ = some (.int .u16 r.dhi) := Ru.rTail hr h 3 _ rfl
theorem Ru.c42 {r : Ru} (hr : r.Ok) (h : w.rangeAt b 0 r.cs) : w.cell? ⟨b, 42, none⟩ = some (.bool r.deny) := Ru.rTail hr h 4 _ rfl
theorem Ru.c43 {r : Ru} (hr : r.Ok) (h : w.rangeAt b 0 r.cs) : w.cell? ⟨b, 43, none⟩ = some (.int .i64 r.cls) := Ru.rTail hr h 5 _ rfl
theorem Ky.rSrc {k : Ky} (h : w.rangeAt b 0 k.cs) : w.rangeAt b 0 k.src.cs := by
  have := range_part (xs := []) (ys := k.src.cs) (zs := k.dst.cs ++ [.int .u8 k.proto, .int .u16 k.sp, .int .u16 k.dp]) (n := 0) (by simpa [Ky.cs] using h) rfl
  simpa using this
theorem Ky.rDst {k : Ky} (hk : k.Ok) (h : w.rangeAt b 0 k.cs) : w.rangeAt b 17 k.dst.cs := by
  have := range_part (xs := k.src.cs) (ys := k.dst.cs) (zs := [.int .u8 k.proto, .int .u16 k.sp, .int .u16 k.dp]) (n := 17) (by simpa [Ky.cs] using h) hk.s.len
  simpa using this
theorem Ky.rTail {k : Ky} (hk : k.Ok) (h : w.rangeAt b 0 k.cs) : w.rangeAt b 34 [.int .u8 k.proto, .int .u16 k.sp, .int .u16 k.dp] := by
  have := range_part (xs := k.src.cs ++ k.dst.cs) (ys := [.int .u8 k.proto, .int .u16 k.sp, .int .u16 k.dp]) (zs := []) (n := 34) (by simpa [Ky.cs] using h) (by simp [hk.s.len, hk.d.len])
  simpa using this
theorem Ky.c34 {k : Ky} (hk : k.Ok) (h : w.rangeAt b 0 k.cs) : w.cell? ⟨b, 34, none⟩ = some (.int .u8 k.proto) := Ky.rTail hk h 0 _ rfl
theorem Ky.c35 {k : Ky} (hk : k.Ok) (h : w.rangeAt b 0 k.cs) : w.cell? ⟨b, 35, none⟩ = some (.int .u16 k.sp) := Ky.rTail hk h 1 _ rfl
theorem Ky.c36 {k : Ky} (hk : k.Ok) (h : w.rangeAt b 0 k.cs) : w.cell? ⟨b, 36, none⟩ = some (.int .u16 k.dp) := Ky.rTail hk h 2 _ rfl
end

def Ad.ver (a : Ad) : Int := if a.six = true then 6 else 4
def Pf.isNone (p : Pf) : Bool := decide (p = Pf.zero)
def prefixedB (p q : Pf) : Bool := p.isNone || (!q.isNone && q.within p)
def portHas (lo hi n : Nat) : Bool := decide (lo ≤ n) && decide (n ≤ hi)
def portedB (lo hi : Nat) (k : Ky) (n : Nat) : Bool := (decide (lo = 0) && decide (hi = 65535)) || ((decide (k.proto = 6) || decide (k.proto = 17)) && portHas lo hi n)

set_option maxRecDepth 100000 in
theorem version_is (p : Pf) (w : World) :
    Calls Try.prog 45 #[.agg p.arr] w fun e w' => e = .returned (.int .i64 p.a.ver) ∧ Below w.heap.size w w' := by
  have hB : Below w.heap.size w (w.alloc (.cells p.arr 39)) := (Below.refl _ _).alloc (Nat.le_refl _) _
  have hr : (w.alloc (.cells p.arr 39)).rangeAt w.heap.size 0 p.cs := range_block (alloc_block_new w (.cells p.arr 39))
  have h6 := Ad.cSix (Pf.rA hr)
  obtain ⟨⟨s, bs⟩, l⟩ := p
  dsimp at h6
  cases s
  all_goals
    go_enter Try.func45, Try.ntmps45
    go_wp2_with fail
    go_ret
    exact ⟨rfl, hB⟩

set_option maxRecDepth 100000 in
theorem every_is (w : World) :
    Calls Try.prog 27 #[] w fun e w' => e = .returned (.agg #[.int .u16 0, .int .u16 65535]) ∧ Below w.heap.size w w' := by
  go_enter Try.func27, Try.ntmps27
  go_wp2_with fail
  refine bodyPost_ret (v := .agg #[.int .u16 0, .int .u16 65535]) (results_cell rfl rfl (run_loadVar_mid _ _ _ _ [.int .u16 0, .int .u16 65535] _ (range_block (alloc_block_new w (.cells #[.int .u16 0, .int .u16 65535] 41))) Try.underlying41 rfl (by kernel_rfl))) rfl ⟨rfl, (Below.refl _ _).alloc (Nat.le_refl _) _⟩

set_option maxRecDepth 100000 in
theorem phas_is (lo hi n : Nat) (w : World) :
    Calls Try.prog 73 #[.agg #[.int .u16 lo, .int .u16 hi], .int .u16 n] w fun e w' => e = .returned (.bool (portHas lo hi n)) ∧ Below w.heap.size w w' := by
  by_cases h1 : lo ≤ n <;> by_cases h2 : n ≤ hi
  all_goals
    go_enter Try.func73, Try.ntmps73
    go_wp2_with fail
    go_ret
    exact ⟨by simp [portHas]; omega, (Below.refl _ _).alloc (Nat.le_refl _) _⟩

theorem eql_ports (a b c d : Nat) (w : World) : (binOp .eql 41 (.agg #[.int .u16 a, .int .u16 b]) (.agg #[.int .u16 c, .int .u16 d])).run Try.prog w = .ok (.bool (decide (a = c) && decide (b = d))) w := by
  by_cases h1 : a = c <;> by_cases h2 : b = d <;> simp [go_sem, part, h1, h2] <;> omega

/-- Two structs by value, each in a variable of its own. -/
theorem two_boxes (w : World) (x y : Array Value) (T U : TypeId) :
    Below w.heap.size w ((w.alloc (.cells x T)).alloc (.cells y U)) ∧ ((w.alloc (.cells x T)).alloc (.cells y U)).heap[w.heap.size]? = some (.cells x T (0, 0)) ∧ ((w.alloc (.cells x T)).alloc (.cells y U)).heap[w.heap.size + 1]? = some (.cells y U (0, 0)) :=
  ⟨((Below.refl _ _).alloc (Nat.le_refl _) _).alloc (by simp) _, (alloc_block_old _ (by simp)).trans (alloc_block_new w _), alloc_block_at _ _ (by simp)⟩

set_option maxRecDepth 100000 in
theorem ported_is {k : Ky} (hk : k.Ok) (lo hi n : Nat) (w : World) :
    Calls Try.prog 58 #[.agg #[.int .u16 lo, .int .u16 hi], .agg k.arr, .int .u16 n] w fun e w' => e = .returned (.bool (portedB lo hi k n)) ∧ Below w.heap.size w w' := by
  go_enter Try.func58, Try.ntmps58
  go_upto_region 1 with (fail)
  obtain ⟨hB, g0, g1⟩ := two_boxes w #[.int .u16 lo, .int .u16 hi] k.arr 41 28
  generalize (w.alloc (.cells #[.int .u16 lo, .int .u16 hi] 41)).alloc (.cells k.arr 28) = w1 at *
  have hl := lt_of_obj g0
  have hl1 := lt_of_obj g1
  have hr1 : w1.rangeAt (w.heap.size + 1) 0 k.cs := range_block g1
  generalize hb : w.heap.size = b at *
  have HB := Lib.hid (And.intro hb hB)
  have k0 : ∀ z : Wld (fun x => Below w1.heap.size w1 x), z.w.cell? ⟨b, 0, none⟩ = some (.int .u16 lo) := fun z => (z.ok.cell (p := ⟨b, 0, none⟩) hl).trans (cell_of_block g0 0)
  have k1 : ∀ z : Wld (fun x => Below w1.heap.size w1 x), z.w.cell? ⟨b, 1, none⟩ = some (.int .u16 hi) := fun z => (z.ok.cell (p := ⟨b, 1, none⟩) hl).trans (cell_of_block g0 1)
  have k2 : ∀ z : Wld (fun x => Below w1.heap.size w1 x), z.w.cell? ⟨b + 1, 34, none⟩ = some (.int .u8 k.proto) := fun z => Ky.c34 hk (range_below hr1 hl1 z.ok)
  have ke : ∀ w : World, (binOp .eql 41 (.agg #[.int .u16 lo, .int .u16 hi]) (.agg #[.int .u16 0, .int .u16 65535])).run Try.prog w = .ok (.bool (decide (lo = 0) && decide (hi = 65535))) w := eql_ports lo hi 0 65535
  haveI hne : Nonempty (Wld (fun x => Below w1.heap.size w1 x)) := ⟨⟨w1, Below.refl _ _⟩⟩
  clear hb hB g0 g1 hr1
  cases hE : (decide (lo = 0) && decide (hi = 65535)) with
  | _ =>
    have h3 : (k.proto = 6 ∧ ¬ k.proto = 17) ∨ (¬ k.proto = 6 ∧ k.proto = 17) ∨ (¬ k.proto = 6 ∧ ¬ k.proto = 17) := by omega
    rcases h3 with ⟨h6, h17⟩ | ⟨h6, h17⟩ | ⟨h6, h17⟩
    all_goals
      have i6 : ((k.proto : Int) == 6) = decide (k.proto = 6) := by rw [Bool.eq_iff_iff]; simp; omega
      have i17 : ((k.proto : Int) == 17) = decide (k.proto = 17) := by rw [Bool.eq_iff_iff]; simp; omega
      simp only [h6, h17, decide_true, decide_false] at i6 i17
      rw [hE] at ke
      refine region_class (fun x => Below w1.heap.size w1 x) (by kernel_rfl) (by kernel_rfl) (Below.refl _ _).drew ?_
      repeat (go_big_quiet_step ((rename_i z; first
        | (go_at_call 27; exact (every_is _).mono fun e w' ⟨he, hb⟩ => ⟨he, ⟨w', z.ok.trans (hb.mono z.ok.size)⟩, rfl⟩)
        | (go_at_call 73; exact (phas_is lo hi n _).mono fun e w' ⟨he, hb⟩ => ⟨he, ⟨w', z.ok.trans (hb.mono z.ok.size)⟩, rfl⟩))))
      refine wpQuiet_nil ?_
      intro w2 hB2
      have hBf := HB.out.2.trans (hB2.mono (by omega))
      go_wp2_with fail
      go_ret
      exact ⟨by rw [portedB, hE]; simp [h6, h17], by rw [HB.out.1]; exact hBf⟩
end Go.Proofs.Ytcbkcalemfminaa
