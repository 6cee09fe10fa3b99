/- The document's queue: its items in a row that is never written; New, Size, walked. -/
import Derived.Test.YtpnhdfingcfbnaaFo1
import Derived.Test.YtpnhdfingcfbnaaConv8
import Derived.IntWalk
import Derived.Deep.QuietTactic
import Derived.BigQuiet
namespace Go.Proofs.Ytpnhdfingcfbnaa
open Go.RowKit

/-- The document's items, in a row from whatever place on. -/
def RL (w : World) (B : Nat) (v : Value) (L : List It) : Prop :=
  (v = .slice none 0 0 ∧ L = []) ∨ ∃ g o c cur, v = .slice (some ⟨g, o, none⟩) L.length c ∧ B ≤ g ∧ w.heap[g]? = some (.cells cur 42 (0, 0)) ∧ L.length ≤ c ∧
    ∀ i (x : It), L[i]? = some x → cur[o + i * 3]? = some (.int .u64 x.no) ∧ cur[o + i * 3 + 1]? = some (.int .i64 x.size) ∧ cur[o + i * 3 + 2]? = some (.string (str8 x.data))

theorem RL.keep {w w' : World} {B : Nat} {v : Value} {L : List It} (h : RL w B v L) {S : Nat → Prop} (hO : Only S w w') (hS : ∀ k, v.ownBlock = some k → ¬ S k) : RL w' B v L := by
  rcases h with h | ⟨g, o, c, cur, hv, hg, hh, h⟩
  · exact .inl h
  · exact .inr ⟨g, o, c, cur, hv, hg, hO.keep hh (hS g (by rw [hv]; rfl)), h⟩
theorem RL.below {w w' : World} {B : Nat} {v : Value} {L : List It} (h : RL w B v L) (hB : Below w.heap.size w w') : RL w' B v L := h.keep (Below.only hB (fun _ => False)) (fun _ _ h => h)
theorem RL.ge {w : World} {B : Nat} {v : Value} {L : List It} (h : RL w B v L) : ∀ k, v.ownBlock = some k → B ≤ k ∧ k < w.heap.size := by
  rcases h with ⟨rfl, _⟩ | ⟨g, o, c, cur, rfl, hg, hh, _⟩
  · intro k hk; simp [Value.ownBlock] at hk
  · intro k hk
    have : g = k := by injection hk
    subst this
    exact ⟨hg, lt_of_obj hh⟩
theorem RL.shape {w : World} {B : Nat} {v : Value} {L : List It} (h : RL w B v L) : ∃ ao c, v = .slice ao L.length c := by
  rcases h with ⟨rfl, rfl⟩ | ⟨g, o, c, cur, rfl, _⟩
  · exact ⟨none, 0, rfl⟩
  · exact ⟨_, c, rfl⟩
theorem RL.at {w : World} {B : Nat} {ao : Option Addr} {n c i : Nat} {L : List It} {x : It} (h : RL w B (.slice ao n c) L) (hi : L[i]? = some x) :
    ∃ g o, ao = some ⟨g, o, none⟩ ∧ w.cell? ⟨g, o + i * 3, none⟩ = some (.int .u64 x.no) ∧ w.cell? ⟨g, o + i * 3 + 1, none⟩ = some (.int .i64 x.size) ∧ w.cell? ⟨g, o + i * 3 + 2, none⟩ = some (.string (str8 x.data)) := by
  rcases h with ⟨_, rfl⟩ | ⟨g, o, c, cur, hv, hg, hh, _, hx⟩
  · simp at hi
  · injection hv with e1 e2 e3
    obtain ⟨a, b, d⟩ := hx i x hi
    exact ⟨g, o, e1, (cell_of_block hh _).trans a, (cell_of_block hh _).trans b, (cell_of_block hh _).trans d⟩

theorem sumQ_take {L : List It} {k : Nat} {x : It} (h : L[k]? = some x) : sumQ (L.take (k + 1)) = sumQ (L.take k) + x.size := by
  rw [List.take_add_one, h]
  simp [sumQ]
theorem sumQ_take_le (L : List It) (k : Nat) : sumQ (L.take k) ≤ sumQ L := by
  have : sumQ L = sumQ (L.take k) + sumQ (L.drop k) := by
    conv => lhs; rw [← List.take_append_drop k L]
    simp only [sumQ, List.map_append, List.sum_append]
  omega

set_option maxRecDepth 100000 in
theorem rsize_is {w : World} {B : Nat} {v : Value} {L : List It} (h : RL w B v L) (hs : sumQ L ≤ 9223372036854775807) (hn : L.length ≤ 65536) (i b d : Int) :
    Calls Try.prog 27 #[.agg #[v, .int .i64 i, .int .i64 b, .int .u64 d]] w fun e w' => e = .returned (.int .i64 (sumQ L)) ∧ Below w.heap.size w w' := by
  obtain ⟨ao, c, rfl⟩ := h.shape
  have hB : Below w.heap.size w (w.alloc (.cells #[.slice ao L.length c, .int .i64 i, .int .i64 b, .int .u64 d] 32)) := (Below.refl _ _).alloc (Nat.le_refl _) _
  have h2 := h.below hB
  have HH := Lib.hid h2
  have HS := Lib.hid hs
  have HB := Lib.hid hB
  have x0 := cell_of_block (alloc_block_new w (.cells #[.slice ao L.length c, .int .i64 i, .int .i64 b, .int .u64 d] 32)) 0
  dsimp at x0
  clear h h2 hs hB
  go_enter Try.func27, Try.ntmps27
  go_wp2_with fail
  generalize (w.alloc (.cells #[.slice ao L.length c, .int .i64 i, .int .i64 b, .int .u64 d] 32)) = w1 at *
  go_loop [3, 4] (fun n i => ∃ k : Nat, i = .int .i64 k ∧ n = .int .i64 (sumQ (L.take k)) ∧ k ≤ L.length) (fun _ i => L.length - (intOf i).toNat)
  case atStart => exact ⟨0, rfl, rfl, Nat.zero_le _⟩
  case round =>
    obtain ⟨k, rfl, rfl, hk⟩ := hrel
    by_cases hlt : k < L.length
    · obtain ⟨x, hx⟩ : ∃ x, L[k]? = some x := ⟨_, List.getElem?_eq_getElem hlt⟩
      obtain ⟨g, o, rfl, y0, y1, y2⟩ := HH.out.at hx
      have hst := sumQ_take hx
      have hsl := sumQ_take_le L (k + 1)
      have hs := HS.out
      have hw : IntKind.i64.wrap ((sumQ (L.take k) : Int) + (x.size : Int)) = ((sumQ (L.take k) : Nat) : Int) + (x.size : Int) := IntWalk.i64_in _ (by omega)
      have HST := Lib.hid hst
      clear hst hsl hs hx
      go_wp2_with fail
      go_round
      case rel => exact ⟨k + 1, by go_num, by rw [HST.out]; rfl, by omega⟩
      case measure => simp [intOf]; omega
    · have hkl : L.take k = L := List.take_of_length_le (by omega)
      rw [hkl]
      clear hkl
      go_wp2_with fail
      go_ret
      exact ⟨rfl, HB.out⟩

set_option maxRecDepth 100000 in
theorem rnew_bad (i s : Int) (hb : i < 0 ∨ s < 0 ∨ 65536 < i) (w : World) :
    Calls Try.prog 10 #[.int .i64 i, .int .i64 s] w fun e w' => e = .returned (.tuple #[.agg #[.slice none 0 0, .int .i64 0, .int .i64 0, .int .u64 0], .int .i64 2]) ∧ Below w.heap.size w w' := by
  go_enter Try.func10, Try.ntmps10
  go_wp2_with fail
  all_goals
    exact bodyPost_ret (v := .tuple #[.agg #[.slice none 0 0, .int .i64 0, .int .i64 0, .int .u64 0], .int .i64 2]) (by simp [results, Try.results10, go_sem]) rfl ⟨rfl, by simpa using (Below.refl _ _).alloc (Nat.le_refl _) _⟩
theorem rnew_ok (i s : Nat) (hi : i ≤ 65536) (hs : s ≤ 9223372036854775807) (w : World) :
    Calls Try.prog 10 #[.int .i64 i, .int .i64 s] w fun e w' => e = .returned (.tuple #[.agg #[.slice none 0 0, .int .i64 i, .int .i64 s, .int .u64 0], .int .i64 0]) ∧ Below w.heap.size w w' := by
  go_enter Try.func10, Try.ntmps10
  go_wp2_with fail
  exact bodyPost_ret (v := .tuple #[.agg #[.slice none 0 0, .int .i64 i, .int .i64 s, .int .u64 0], .int .i64 0]) (by simp [results, Try.results10, go_sem]) rfl ⟨rfl, by simpa using (Below.refl _ _).alloc (Nat.le_refl _) _⟩

/-- The document's queue as a value. -/
def rq (v : Value) (Q : QS) : Value := .agg #[v, .int .i64 Q.items, .int .i64 Q.bound, .int .u64 Q.drops]

set_option maxRecDepth 100000 in
theorem rroom_is {w : World} {B : Nat} {v : Value} {Q : QS} (h : RL w B v Q.L) (hf : Q.L.length ≤ 65536) (hi : Q.items ≤ 65536) (hs : sumQ Q.L ≤ Q.bound) (hb : Q.bound ≤ 9223372036854775807) (s : Int) :
    Calls Try.prog 16 #[rq v Q, .int .i64 s] w fun e w' => e = .returned (.bool (roomB Q s)) ∧ Below w.heap.size w w' := by
  obtain ⟨ao, c, rfl⟩ := h.shape
  unfold roomB rq
  have hB : Below w.heap.size w (w.alloc (.cells #[.slice ao Q.L.length c, .int .i64 Q.items, .int .i64 Q.bound, .int .u64 Q.drops] 32)) := (Below.refl _ _).alloc (Nat.le_refl _) _
  have h2 := h.below hB
  have hg := alloc_block_new w (.cells #[.slice ao Q.L.length c, .int .i64 Q.items, .int .i64 Q.bound, .int .u64 Q.drops] 32)
  have hS := rsize_is h2 (by omega) hf Q.items Q.bound Q.drops
  have HS : Hid (∀ w', Below (w.alloc (.cells #[.slice ao Q.L.length c, .int .i64 Q.items, .int .i64 Q.bound, .int .u64 Q.drops] 32)).heap.size (w.alloc (.cells #[.slice ao Q.L.length c, .int .i64 Q.items, .int .i64 Q.bound, .int .u64 Q.drops] 32)) w' →
      Calls Try.prog 27 #[.agg #[.slice ao Q.L.length c, .int .i64 Q.items, .int .i64 Q.bound, .int .u64 Q.drops]] w' fun e w'' => e = .returned (.int .i64 (sumQ Q.L)) ∧ Below w'.heap.size w' w'') := fun w' hb => rsize_is (h2.below hb) (by omega) hf Q.items Q.bound Q.drops
  have HB := Lib.hid hB
  have HG := Lib.hid hg
  clear h h2 hB hS hg
  generalize Q.L.length = many at *
  generalize sumQ Q.L = sum at *
  generalize Q.items = items at *
  generalize Q.bound = bound at *
  generalize Q.drops = drops at *
  have i1 : IntKind.i64.wrap ((bound : Int) - (sum : Int)) = (bound : Int) - (sum : Int) := IntWalk.i64_in _ (by omega)
  obtain ⟨g, eg⟩ : ∃ t, w.heap.size = t := ⟨_, rfl⟩
  obtain ⟨w1, ew1⟩ : ∃ t, w.alloc (.cells #[.slice ao many c, .int .i64 items, .int .i64 bound, .int .u64 drops] 32) = t := ⟨_, rfl⟩
  have HE : Hid (w.heap.size = g) := eg
  have HW : Hid (w.alloc (.cells #[.slice ao many c, .int .i64 items, .int .i64 bound, .int .u64 drops] 32) = w1) := ew1
  rw [ew1] at HS HB HG
  rw [eg] at HG
  clear eg ew1
  have cl : ∀ (x : Wld (fun x => Below w1.heap.size w1 x)) (i : Nat), x.w.cell? ⟨g, i, none⟩ = (#[.slice ao many c, .int .i64 items, .int .i64 bound, .int .u64 drops] : Array Value)[i]? := fun x i => cell_of_block ((x.ok.block g (lt_of_obj HG.out)).trans HG.out) i
  have c0 : ∀ x : Wld (fun x => Below w1.heap.size w1 x), x.w.cell? ⟨g, 0, none⟩ = some (.slice ao many c) := fun x => cl x 0
  have c1 : ∀ x : Wld (fun x => Below w1.heap.size w1 x), x.w.cell? ⟨g, 1, none⟩ = some (.int .i64 items) := fun x => cl x 1
  have c2 : ∀ x : Wld (fun x => Below w1.heap.size w1 x), x.w.cell? ⟨g, 2, none⟩ = some (.int .i64 bound) := fun x => cl x 2
  have c3 : ∀ x : Wld (fun x => Below w1.heap.size w1 x), x.w.cell? ⟨g, 3, none⟩ = some (.int .u64 drops) := fun x => cl x 3
  haveI hne : Nonempty (Wld (fun x => Below w1.heap.size w1 x)) := ⟨⟨w1, Below.refl _ _⟩⟩
  clear cl
  by_cases h0 : 0 ≤ s
  · by_cases h1 : many < items
    · have j1 : (many : Int) < (items : Int) := by omega
      by_cases h2 : s ≤ (bound : Int) - (sum : Int)
      · rw [decide_eq_true ⟨h0, h1, h2⟩]
        go_enter Try.func16, Try.ntmps16
        go_wp2_with fail
        rw [HE.out, HW.out]
        refine region_class (fun x => Below w1.heap.size w1 x) (by kernel_rfl) (by kernel_rfl) (Below.refl _ _).drew ?_
        repeat (go_big_quiet_step ((rename_i x; go_at_call 27; exact (HS.out _ x.ok).mono fun e w' ⟨he, hb⟩ => ⟨he, ⟨w', x.ok.trans (hb.mono x.ok.size)⟩, rfl⟩)))
        refine wpQuiet_nil ?_
        intro w3 hB3
        go_wp2_with fail
        go_ret
        exact ⟨rfl, HB.out.trans (hB3.mono HB.out.size)⟩
      · rw [decide_eq_false (fun h => h2 h.2.2)]
        have j2 : decide (s ≤ (bound : Int) - (sum : Int)) = false := decide_eq_false h2
        go_enter Try.func16, Try.ntmps16
        go_wp2_with fail
        rw [HE.out, HW.out]
        refine region_class (fun x => Below w1.heap.size w1 x) (by kernel_rfl) (by kernel_rfl) (Below.refl _ _).drew ?_
        repeat (go_big_quiet_step ((rename_i x; go_at_call 27; exact (HS.out _ x.ok).mono fun e w' ⟨he, hb⟩ => ⟨he, ⟨w', x.ok.trans (hb.mono x.ok.size)⟩, rfl⟩)))
        refine wpQuiet_nil ?_
        intro w3 hB3
        go_wp2_with fail
        go_ret
        exact ⟨rfl, HB.out.trans (hB3.mono HB.out.size)⟩
    · rw [decide_eq_false (fun h => h1 h.2.1)]
      have j1 : decide (many < items) = false := decide_eq_false h1
      have j2 : decide ((many : Int) < (items : Int)) = false := decide_eq_false (by omega)
      go_enter Try.func16, Try.ntmps16
      go_wp2_with fail
      rw [HE.out, HW.out]
      refine region_class (fun x => Below w1.heap.size w1 x) (by kernel_rfl) (by kernel_rfl) (Below.refl _ _).drew ?_
      repeat (go_big_quiet_step (fail))
      refine wpQuiet_nil ?_
      intro w3 hB3
      go_wp2_with fail
      go_ret
      exact ⟨rfl, HB.out.trans (hB3.mono HB.out.size)⟩
  · rw [decide_eq_false (fun h => h0 h.1)]
    have j1 : decide (0 ≤ s) = false := decide_eq_false h0
    go_enter Try.func16, Try.ntmps16
    go_wp2_with fail
    rw [HE.out, HW.out]
    refine region_class (fun x => Below w1.heap.size w1 x) (by kernel_rfl) (by kernel_rfl) (Below.refl _ _).drew ?_
    repeat (go_big_quiet_step (fail))
    refine wpQuiet_nil ?_
    intro w3 hB3
    go_wp2_with fail
    go_ret
    exact ⟨rfl, HB.out.trans (hB3.mono HB.out.size)⟩
end Go.Proofs.Ytpnhdfingcfbnaa
