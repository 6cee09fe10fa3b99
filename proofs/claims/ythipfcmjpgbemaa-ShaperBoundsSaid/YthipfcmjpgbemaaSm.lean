/- New: the ends. -/
import Derived.Test.YthipfcmjpgbemaaSl
namespace Go.Proofs.Ythipfcmjpgbemaa
open Go.RowKit

/-- What a class may. -/
structure Cl where
  rate : Nat
  burst : Nat
  items : Int
  size : Int
structure Cl.Ok (c : Cl) : Prop where
  rate : c.rate < 18446744073709551616
  burst : c.burst < 18446744073709551616
  items : -9223372036854775808 ≤ c.items ∧ c.items ≤ 9223372036854775807
  size : -9223372036854775808 ≤ c.size ∧ c.size ≤ 9223372036854775807
def Cl.may (c : Cl) : Bool := decide (0 ≤ c.items) && decide (c.items ≤ 65536) && decide (0 ≤ c.size) && decide (2048 ≤ c.burst)
def newLn (c : Cl) (t : Nat) : Ln := ⟨0, 0, 0, 0, ⟨c.rate, c.burst, t, c.burst⟩, empty c.items.toNat c.size.toNat⟩
/-- Classes that may be read. -/
structure Cls (w : World) (v : Value) (l : List Cl) : Prop where
  sh : ∃ a c, v = .slice a l.length c ∧ l.length ≤ c ∧ (0 < l.length → ∃ b o, a = some ⟨b, o, none⟩ ∧ b < w.heap.size ∧ ∀ j (x : Cl), l[j]? = some x → w.cell? ⟨b, o + j * 4, none⟩ = some (.int .u64 x.rate) ∧ w.cell? ⟨b, o + j * 4 + 1, none⟩ = some (.int .u64 x.burst) ∧ w.cell? ⟨b, o + j * 4 + 2, none⟩ = some (.int .i64 x.items) ∧ w.cell? ⟨b, o + j * 4 + 3, none⟩ = some (.int .i64 x.size))
  ok : ∀ x ∈ l, x.Ok
theorem Cls.below {w w' : World} {v : Value} {l : List Cl} (h : Cls w v l) (hB : Below w.heap.size w w') : Cls w' v l := by
  obtain ⟨a, c, e, hc, hx⟩ := h.sh
  refine ⟨⟨a, c, e, hc, fun h0 => ?_⟩, h.ok⟩
  obtain ⟨b, o, ea, hb, hj⟩ := hx h0
  refine ⟨b, o, ea, Nat.lt_of_lt_of_le hb hB.size, fun j x hjx => ?_⟩
  obtain ⟨h1, h2, h3, h4⟩ := hj j x hjx
  exact ⟨(hB.cell (p := ⟨b, _, none⟩) hb).trans h1, (hB.cell (p := ⟨b, _, none⟩) hb).trans h2, (hB.cell (p := ⟨b, _, none⟩) hb).trans h3, (hB.cell (p := ⟨b, _, none⟩) hb).trans h4⟩

theorem new_len {t : Nat} {w : World} {a : Option Addr} {n c : Nat} (hn : n = 0 ∨ 8 < n) :
    Calls Try.prog 10 #[.int .u64 t, .slice a n c] w fun e w' => e = .returned (.tuple #[.pointer none, .int .i64 2]) ∧ Below w.heap.size w w' := by
  rcases hn with rfl | hn
  · go_enter Try.func10, Try.ntmps10
    go_wp2_with fail
    go_ret2
    exact ⟨rfl, Below.refl _ _⟩
  · have h1 : (8 : Int) < (n : Int) := by omega
    have h2 : ¬ (n : Int) = 0 := by omega
    have h3 : ¬ n = 0 := by omega
    go_enter Try.func10, Try.ntmps10
    go_wp2_with fail
    go_ret2
    exact ⟨rfl, Below.refl _ _⟩

theorem info_lp : (Try.prog.info? 77).map (fun i => (i.zero, i.size, i.bytes)) = some (some (.pointer none), 1, 8) := by kernel_rfl
/-- A shaper of the call's own. -/
structure MineS (W w : World) (p : Nat) (O : Nat → Nat) (v : Value) (ps : List Nat) (S : Sh) : Prop where
  is : IsS w p O v ps S
  ge : ∀ k, O k ≠ 0 → W.heap.size ≤ k
  bel : Below W.heap.size W w
theorem MineS.below {W w w' : World} {p : Nat} {O : Nat → Nat} {v : Value} {ps : List Nat} {S : Sh} (h : MineS W w p O v ps S) (hB : Below w.heap.size w w') : MineS W w' p O v ps S :=
  ⟨h.is.below hB, h.ge, h.bel.trans (hB.mono h.bel.size)⟩
theorem MineS.step {W w w' : World} {p : Nat} {O O' : Nat → Nat} {v v' : Value} {ps ps' : List Nat} {S S' : Sh} (h : MineS W w p O v ps S) (hI : IsS w' p O' v' ps' S') (hG : Grow O O' w w') : MineS W w' p O' v' ps' S' := by
  have hs := h.bel.size
  refine ⟨hI, fun k hk => ?_, h.bel.trans (hG.only.below hs (fun k hk e => by have := h.ge k e; omega))⟩
  rcases hG.new k hk with e | e
  · exact h.ge k e
  · omega
/-- A shaper without lines. -/
theorem isS_new (w : World) (t : Nat) :
    MineS w (w.alloc (.cells #[.int .u64 t, .slice none 0 0] 73)) w.heap.size (fun k => if k = w.heap.size then 1 else 0) (.slice none 0 0) [] ⟨t, []⟩ := by
  refine ⟨⟨alloc_block_new _ _, ⟨rfl, .inl ⟨rfl, rfl⟩⟩, rfl, fun c L lp hc => by simp at hc, by simp, fun k hk => (by cases hk), fun k hk => ?_⟩, fun k hk => ?_, (Below.refl _ _).alloc (Nat.le_refl _) _⟩
  · by_cases e : k = w.heap.size
    · subst e; simp
    · simp [e] at hk
  · by_cases e : k = w.heap.size
    · omega
    · simp [e] at hk
def NRel (W : World) (t p : Nat) (l : List Cl) (iv : Value) (w : World) : Prop :=
  ∃ k : Nat, ∃ O v ps, iv = .int .i64 k ∧ k ≤ l.length ∧ MineS W w p O v ps ⟨t, (l.take k).map (newLn · t)⟩ ∧ ∀ j x, j < k → l[j]? = some x → x.may = true
def NewOk (W : World) (t : Nat) (l : List Cl) (e : Ending) (w : World) : Prop :=
  (l.all Cl.may = false ∧ e = .returned (.tuple #[.pointer none, .int .i64 2]) ∧ Below W.heap.size W w) ∨
  (l.all Cl.may = true ∧ ∃ p O v ps, e = .returned (.tuple #[ptr p, .int .i64 0]) ∧ MineS W w p O v ps ⟨t, l.map (newLn · t)⟩)

theorem one_new_at {w : World} {o : Obj} {n : Nat} (hn : (w.alloc o).heap.size = n) (x : Value) (e : TypeId) : ∀ j u, [x][j]? = some u → ((w.alloc o).alloc (.cells #[x] e)).cell? ((⟨n, 0, none⟩ : Addr).add j) = some u := by
  subst hn; exact one_new _ x e
theorem alloc_size (w : World) (o : Obj) : (w.alloc o).heap.size = w.heap.size + 1 := by simp
end Go.Proofs.Ythipfcmjpgbemaa
