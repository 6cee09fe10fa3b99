/- Pop, walked. -/
import Derived.Test.YthipfcmjpgbemaaFq9
namespace Go.Proofs.Ythipfcmjpgbemaa
open Go.RowKit

theorem set3_blk {w : World} {g : Nat} {x y z : Value} {T : TypeId} (h : w.heap[g]? = some (.cells #[x, y, z] T (0, 0))) (a b c : Value) :
    (((w.setCell ⟨g, 0, none⟩ a).setCell ⟨g, 1, none⟩ b).setCell ⟨g, 2, none⟩ c).heap[g]? = some (.cells #[a, b, c] T (0, 0)) ∧ Only (· = g) w (((w.setCell ⟨g, 0, none⟩ a).setCell ⟨g, 1, none⟩ b).setCell ⟨g, 2, none⟩ c) :=
  ⟨setCell_block (setCell_block (setCell_block h 0 a) 1 b) 2 c, Only.setCell (p := ⟨g, 2, none⟩) (Only.setCell (p := ⟨g, 1, none⟩) (Only.setCell (p := ⟨g, 0, none⟩) (Only.refl (· = g) w) (fun _ => rfl) _) (fun _ => rfl) _) (fun _ => rfl) _⟩

theorem pop_none (pv : Value) (w : World) (hh : ∀ w' : World, Below w.heap.size w w' → Calls Try.prog 52 #[pv] w' fun e w'' => e = .returned (.tuple #[.agg #[.int .u64 0, .int .i64 0, .slice none 0 0], .bool false]) ∧ Below w'.heap.size w' w'') :
    Calls Try.prog 54 #[pv] w fun e w' => e = .returned (.tuple #[.agg #[.int .u64 0, .int .i64 0, .slice none 0 0], .bool false]) ∧ Below w.heap.size w w' := by
  have hA : Below w.heap.size w (w.alloc (.cells #[.int .u64 0, .int .i64 0, .slice none 0 0] 34)) := (Below.refl _ _).alloc (Nat.le_refl _) _
  have h2 := alloc_block_new w (.cells #[.int .u64 0, .int .i64 0, .slice none 0 0] 34)
  have HH := Lib.hid (hh _ hA)
  clear hh
  go_enter Try.func54, Try.ntmps54
  go_wp2_with fail
  refine HH.out.mono ?_
  rintro e w1 ⟨rfl, hB1⟩
  have h3 := (hB1.block w.heap.size (by simp)).trans h2
  obtain ⟨g2, eg⟩ : ∃ t, w.heap.size = t := ⟨_, rfl⟩
  rw [eg] at h3
  have hl := lt_of_obj h3
  have hne : ¬ g2 = w1.heap.size := by omega
  have hne' : ¬ w1.heap.size = g2 := by omega
  have m0 : w1.cell? ⟨g2, 0, none⟩ = _ := cell_of_block h3 0
  have m1 : w1.cell? ⟨g2, 1, none⟩ = _ := cell_of_block h3 1
  have m2 : w1.cell? ⟨g2, 2, none⟩ = _ := cell_of_block h3 2
  have f0 := free_of_block h3 0
  have f1 := free_of_block h3 1
  have f2 := free_of_block h3 2
  dsimp at m0 m1 m2
  have HB := Lib.hid (hA.trans (hB1.mono hA.size))
  have HE := Lib.hid eg
  have H3 := Lib.hid h3
  clear hB1 h3 h2 hA HH
  go_wp2_with fail
  have hE := HE.out
  have hs := HB.out.size
  obtain ⟨hb, hO⟩ := set3_blk H3.out (.int .u64 0) (.int .i64 0) (.slice none 0 0)
  have hBf := HB.out.trans (hO.below (B := w.heap.size) hs (fun k hk e => by omega))
  have hfin := (alloc_block_old (.cells #[.int .u64 0, .int .i64 0, .slice none 0 0] 34) (lt_of_obj hb)).trans hb
  have hBg := hBf.alloc hBf.size (.cells #[.int .u64 0, .int .i64 0, .slice none 0 0] 34)
  generalize ((((w1.setCell ⟨g2, 0, none⟩ (.int .u64 0)).setCell ⟨g2, 1, none⟩ (.int .i64 0)).setCell ⟨g2, 2, none⟩ (.slice none 0 0)).alloc (.cells #[.int .u64 0, .int .i64 0, .slice none 0 0] 34)) = wf at *
  have r0 : wf.cell? ⟨g2, 0, none⟩ = _ := cell_of_block hfin 0
  have r1 : wf.cell? ⟨g2, 1, none⟩ = _ := cell_of_block hfin 1
  have r2 : wf.cell? ⟨g2, 2, none⟩ = _ := cell_of_block hfin 2
  dsimp at r0 r1 r2
  exact bodyPost_ret (v := .tuple #[.agg #[.int .u64 0, .int .i64 0, .slice none 0 0], .bool false]) (by simp [results, Try.results54, go_sem, r0, r1, r2]) rfl ⟨rfl, hBg⟩

theorem pop_nil (w : World) :
    Calls Try.prog 54 #[.pointer none] w fun e w' => e = .returned (.tuple #[.agg #[.int .u64 0, .int .i64 0, .slice none 0 0], .bool false]) ∧ Below w.heap.size w w' :=
  pop_none _ w fun w' _ => head_nil w'
theorem pop_empty {w : World} {p : Nat} {r : Nat → Nat} {Q : QS} {rv : Value} {f n : Nat} {xs : List Value} (hQ : IsQ w p r Q rv f n xs) (h0 : Q.L = []) :
    Calls Try.prog 54 #[.pointer (some ⟨p, 0, none⟩)] w fun e w' => e = .returned (.tuple #[.agg #[.int .u64 0, .int .i64 0, .slice none 0 0], .bool false]) ∧ Below w.heap.size w w' :=
  pop_none _ w fun _ hB => head_empty (hQ.below hB) h0

/-- A queue behind a pop. -/
def popped (Q : QS) (L : List It) : QS := { Q with L := L }

theorem pop_end {w0 w1 w2 w3 : World} {p : Nat} {r : Nat → Nat} {Q : QS} {g cap f n : Nat} {xs : List Value} {x : It} {L : List It} (hQ : IsQ w1 p r Q (.slice (some ⟨g, 0, none⟩) n cap) f n xs) (hL : Q.L = x :: L) (hB1 : Below w0.heap.size w0 w1) (hwl : ∀ k, r k ≠ 0 → k < w0.heap.size)
    {xs2 : List Value} (hrow : w2.ownsRow 0 34 3 (.slice (some ⟨g, 0, none⟩) n cap) n xs2) (hxs : ∀ j, j < f * 3 ∨ f * 3 + 2 < j → xs2[j]? = xs[j]?) (hO2 : Only (· = g) w1 w2) (hO3 : Only (· = p) w2 w3)
    (hb : w3.heap[p]? = some (.cells #[.slice (some ⟨g, 0, none⟩) n cap, .int .i64 ((f + 1) % n : Nat), .int .i64 L.length, .int .i64 (sumQ L), .int .i64 Q.items, .int .i64 Q.bound, .int .u64 Q.drops] 120 (0, 0))) :
    IsQ w3 p r (popped Q L) (.slice (some ⟨g, 0, none⟩) n cap) ((f + 1) % n) n xs2 ∧ Only (fun k => r k ≠ 0) w0 w3 := by
  have hlen : Q.L.length = L.length + 1 := by rw [hL]; rfl
  have hsum : sumQ Q.L = x.size + sumQ L := by rw [hL]; simp [sumQ]
  have hroom := hQ.room
  have hf : f < n := by have := hQ.from_; omega
  have hrg : r g = 2 := hQ.rr g rfl
  have hfew := hQ.few
  have hsm := hQ.sum
  have hSg : ∀ k, r k ≠ 2 → ¬ k = g := fun k hk e => hk (by rw [e, hrg])
  have hSp : ∀ k, r k ≠ 1 → ¬ k = p := fun k hk e => hk (by rw [e, hQ.rp])
  have hs2 := hO2.size
  have hs3 := hO3.size
  refine ⟨⟨hb, own_only hrow hO3 (fun k hk e => by injection hk with hk; exact hSp g (by rw [hrg]; decide) (hk.trans e)), ?_, .inl (Nat.mod_lt _ (by omega)), ?_, hQ.cap, ?_, hQ.items, ?_, hQ.bound, ?_, hQ.rp, hQ.rr, fun k hk => by have := hQ.lt k hk; omega⟩, ?_⟩
  · intro i z hz
    have hz' : L[i]? = some z := hz
    have hi : i < L.length := (List.getElem?_eq_some_iff.1 hz').1
    obtain ⟨y, hy⟩ := hQ.rc (i + 1) z (by rw [hL]; exact hz')
    have hy3 := (hy.keep hO2 (fun k hk => hSg k (by rw [hk]; decide))).keep hO3 (fun k hk => hSp k (by rw [hk]; decide))
    have hmod : ((f + 1) % n + i) % n = (f + (i + 1)) % n := by rw [Nat.mod_add_mod]; congr 1; omega
    have hne : (f + (i + 1)) % n ≠ f := by
      intro e
      have e2 : (f + (i + 1)) % n = f % n := by rw [e, Nat.mod_eq_of_lt hf]
      have h1 := Nat.sub_mod_eq_zero_of_mod_eq e2
      rw [show f + (i + 1) - f = i + 1 by omega, Nat.mod_eq_of_lt (by omega)] at h1
      omega
    refine ⟨y, ?_, ?_, ?_, hy3.d, hy3.f⟩
    · rw [hmod, hxs _ (by omega)]; exact hy3.c0
    · rw [hmod, hxs _ (by omega)]; exact hy3.c1
    · rw [hmod, hxs _ (by omega)]; exact hy3.c2
  · simp [popped]; omega
  · simp [popped]; omega
  · simp [popped]; omega
  · intro z hz; exact hQ.data z (by rw [hL]; exact List.mem_cons_of_mem _ hz)
  · exact (Below.only hB1 _).trans ((hO2.mono (fun k _ e => by rw [e, hrg]; decide)).trans (hO3.mono (fun k _ e => by rw [e, hQ.rp]; decide)))

end Go.Proofs.Ythipfcmjpgbemaa
