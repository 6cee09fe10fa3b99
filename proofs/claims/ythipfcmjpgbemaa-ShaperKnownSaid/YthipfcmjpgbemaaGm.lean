/- The document's queue: its items in a row that is never written; New, Size, Room, Push, Pop: walked. -/
import Derived.Test.YthipfcmjpgbemaaGe
import Derived.Test.YthipfcmjpgbemaaGc
import Derived.IntWalk
import Derived.Deep.QuietTactic
import Derived.BigQuiet
import Derived.Deep.RegionHeld3
import Derived.Deep.DrawnRows
import Derived.RegionTactic
import Derived.ChangeAlike
import Derived.Laws.AppendOwnNone
namespace Go.Proofs.Ythipfcmjpgbemaa
open Go.RowKit

/-- The document's items, in a row from whatever place on. -/
def RL (w : World) (B : Nat) (v : Value) (L : List It) : Prop :=
  (v = .slice none 0 0 ∧ L = []) ∨ ∃ g o c cur, v = .slice (some ⟨g, o, none⟩) L.length c ∧ B ≤ g ∧ w.heap[g]? = some (.cells cur 42 (0, 0)) ∧ L.length ≤ c ∧
    ∀ i (x : It), L[i]? = some x → cur[o + i * 3]? = some (.int .u64 x.no) ∧ cur[o + i * 3 + 1]? = some (.int .i64 x.size) ∧ cur[o + i * 3 + 2]? = some (.string (str8 x.data))

theorem RL.keep {w w' : World} {B : Nat} {v : Value} {L : List It} (h : RL w B v L) {S : Nat → Prop} (hO : Only S w w') (hS : ∀ k, v.ownBlock = some k → ¬ S k) : RL w' B v L := by
  rcases h with h | ⟨g, o, c, cur, hv, hg, hh, h⟩
  · exact .inl h
  · exact .inr ⟨g, o, c, cur, hv, hg, hO.keep hh (hS g (by rw [hv]; rfl)), h⟩
theorem RL.below {w w' : World} {B : Nat} {v : Value} {L : List It} (h : RL w B v L) (hB : Below w.heap.size w w') : RL w' B v L := h.keep (Below.only hB (fun _ => False)) (fun _ _ h => h)
theorem RL.ge {w : World} {B : Nat} {v : Value} {L : List It} (h : RL w B v L) : ∀ k, v.ownBlock = some k → B ≤ k ∧ k < w.heap.size := by
  rcases h with ⟨rfl, _⟩ | ⟨g, o, c, cur, rfl, hg, hh, _⟩
  · intro k hk; simp [Value.ownBlock] at hk
  · intro k hk
    have : g = k := by injection hk
    subst this
    exact ⟨hg, lt_of_obj hh⟩
theorem RL.shape {w : World} {B : Nat} {v : Value} {L : List It} (h : RL w B v L) : ∃ ao c, v = .slice ao L.length c := by
  rcases h with ⟨rfl, rfl⟩ | ⟨g, o, c, cur, rfl, _⟩
  · exact ⟨none, 0, rfl⟩
  · exact ⟨_, c, rfl⟩
theorem RL.at {w : World} {B : Nat} {ao : Option Addr} {n c i : Nat} {L : List It} {x : It} (h : RL w B (.slice ao n c) L) (hi : L[i]? = some x) :
    ∃ g o, ao = some ⟨g, o, none⟩ ∧ w.cell? ⟨g, o + i * 3, none⟩ = some (.int .u64 x.no) ∧ w.cell? ⟨g, o + i * 3 + 1, none⟩ = some (.int .i64 x.size) ∧ w.cell? ⟨g, o + i * 3 + 2, none⟩ = some (.string (str8 x.data)) := by
  rcases h with ⟨_, rfl⟩ | ⟨g, o, c, cur, hv, hg, hh, _, hx⟩
  · simp at hi
  · injection hv with e1 e2 e3
    obtain ⟨a, b, d⟩ := hx i x hi
    exact ⟨g, o, e1, (cell_of_block hh _).trans a, (cell_of_block hh _).trans b, (cell_of_block hh _).trans d⟩

theorem sumQ_take {L : List It} {k : Nat} {x : It} (h : L[k]? = some x) : sumQ (L.take (k + 1)) = sumQ (L.take k) + x.size := by
  rw [List.take_add_one, h]
  simp [sumQ]
theorem sumQ_take_le (L : List It) (k : Nat) : sumQ (L.take k) ≤ sumQ L := by
  have : sumQ L = sumQ (L.take k) + sumQ (L.drop k) := by
    conv => lhs; rw [← List.take_append_drop k L]
    simp only [sumQ, List.map_append, List.sum_append]
  omega

set_option maxRecDepth 100000 in
theorem rsize_is {w : World} {B : Nat} {v : Value} {L : List It} (h : RL w B v L) (hs : sumQ L ≤ 9223372036854775807) (hn : L.length ≤ 65536) (i b d : Int) :
    Calls Try.prog 73 #[.agg #[v, .int .i64 i, .int .i64 b, .int .u64 d]] w fun e w' => e = .returned (.int .i64 (sumQ L)) ∧ Below w.heap.size w w' := by
  obtain ⟨ao, c, rfl⟩ := h.shape
  have hB : Below w.heap.size w (w.alloc (.cells #[.slice ao L.length c, .int .i64 i, .int .i64 b, .int .u64 d] 104)) := (Below.refl _ _).alloc (Nat.le_refl _) _
  have h2 := h.below hB
  have HH := Lib.hid h2
  have HS := Lib.hid hs
  have HB := Lib.hid hB
  have x0 := cell_of_block (alloc_block_new w (.cells #[.slice ao L.length c, .int .i64 i, .int .i64 b, .int .u64 d] 104)) 0
  dsimp at x0
  clear h h2 hs hB
  go_enter Try.func73, Try.ntmps73
  go_wp2_with fail
  generalize (w.alloc (.cells #[.slice ao L.length c, .int .i64 i, .int .i64 b, .int .u64 d] 104)) = w1 at *
  go_loop [3, 4] (fun n i => ∃ k : Nat, i = .int .i64 k ∧ n = .int .i64 (sumQ (L.take k)) ∧ k ≤ L.length) (fun _ i => L.length - (intOf i).toNat)
  case atStart => exact ⟨0, rfl, rfl, Nat.zero_le _⟩
  case round =>
    obtain ⟨k, rfl, rfl, hk⟩ := hrel
    by_cases hlt : k < L.length
    · obtain ⟨x, hx⟩ : ∃ x, L[k]? = some x := ⟨_, List.getElem?_eq_getElem hlt⟩
      obtain ⟨g, o, rfl, y0, y1, y2⟩ := HH.out.at hx
      have hst := sumQ_take hx
      have hsl := sumQ_take_le L (k + 1)
      have hs := HS.out
      have hw : IntKind.i64.wrap ((sumQ (L.take k) : Int) + (x.size : Int)) = ((sumQ (L.take k) : Nat) : Int) + (x.size : Int) := IntWalk.i64_in _ (by omega)
      have HST := Lib.hid hst
      clear hst hsl hs hx
      go_wp2_with fail
      go_round
      case rel => exact ⟨k + 1, by go_num, by rw [HST.out]; rfl, by omega⟩
      case measure => simp [intOf]; omega
    · have hkl : L.take k = L := List.take_of_length_le (by omega)
      rw [hkl]
      clear hkl
      go_wp2_with fail
      go_ret
      exact ⟨rfl, HB.out⟩

set_option maxRecDepth 100000 in
theorem rnew_bad (i s : Int) (hb : i < 0 ∨ s < 0 ∨ 65536 < i) (w : World) :
    Calls Try.prog 34 #[.int .i64 i, .int .i64 s] w fun e w' => e = .returned (.tuple #[.agg #[.slice none 0 0, .int .i64 0, .int .i64 0, .int .u64 0], .int .i64 2]) ∧ Below w.heap.size w w' := by
  go_enter Try.func34, Try.ntmps34
  go_wp2_with fail
  all_goals
    exact bodyPost_ret (v := .tuple #[.agg #[.slice none 0 0, .int .i64 0, .int .i64 0, .int .u64 0], .int .i64 2]) (by simp [results, Try.results34, go_sem]) rfl ⟨rfl, by simpa using (Below.refl _ _).alloc (Nat.le_refl _) _⟩
theorem rnew_ok (i s : Nat) (hi : i ≤ 65536) (hs : s ≤ 9223372036854775807) (w : World) :
    Calls Try.prog 34 #[.int .i64 i, .int .i64 s] w fun e w' => e = .returned (.tuple #[.agg #[.slice none 0 0, .int .i64 i, .int .i64 s, .int .u64 0], .int .i64 0]) ∧ Below w.heap.size w w' := by
  go_enter Try.func34, Try.ntmps34
  go_wp2_with fail
  exact bodyPost_ret (v := .tuple #[.agg #[.slice none 0 0, .int .i64 i, .int .i64 s, .int .u64 0], .int .i64 0]) (by simp [results, Try.results34, go_sem]) rfl ⟨rfl, by simpa using (Below.refl _ _).alloc (Nat.le_refl _) _⟩

/-- The document's queue as a value. -/
def rq (v : Value) (Q : QS) : Value := .agg #[v, .int .i64 Q.items, .int .i64 Q.bound, .int .u64 Q.drops]

set_option maxRecDepth 100000 in
theorem rroom_is {w : World} {B : Nat} {v : Value} {Q : QS} (h : RL w B v Q.L) (hf : Q.L.length ≤ 65536) (hi : Q.items ≤ 65536) (hs : sumQ Q.L ≤ Q.bound) (hb : Q.bound ≤ 9223372036854775807) (s : Int) :
    Calls Try.prog 69 #[rq v Q, .int .i64 s] w fun e w' => e = .returned (.bool (roomB Q s)) ∧ Below w.heap.size w w' := by
  obtain ⟨ao, c, rfl⟩ := h.shape
  unfold roomB rq
  have hB : Below w.heap.size w (w.alloc (.cells #[.slice ao Q.L.length c, .int .i64 Q.items, .int .i64 Q.bound, .int .u64 Q.drops] 104)) := (Below.refl _ _).alloc (Nat.le_refl _) _
  have h2 := h.below hB
  have hg := alloc_block_new w (.cells #[.slice ao Q.L.length c, .int .i64 Q.items, .int .i64 Q.bound, .int .u64 Q.drops] 104)
  have hS := rsize_is h2 (by omega) hf Q.items Q.bound Q.drops
  have HS : Hid (∀ w', Below (w.alloc (.cells #[.slice ao Q.L.length c, .int .i64 Q.items, .int .i64 Q.bound, .int .u64 Q.drops] 104)).heap.size (w.alloc (.cells #[.slice ao Q.L.length c, .int .i64 Q.items, .int .i64 Q.bound, .int .u64 Q.drops] 104)) w' →
      Calls Try.prog 73 #[.agg #[.slice ao Q.L.length c, .int .i64 Q.items, .int .i64 Q.bound, .int .u64 Q.drops]] w' fun e w'' => e = .returned (.int .i64 (sumQ Q.L)) ∧ Below w'.heap.size w' w'') := fun w' hb => rsize_is (h2.below hb) (by omega) hf Q.items Q.bound Q.drops
  have HB := Lib.hid hB
  have HG := Lib.hid hg
  clear h h2 hB hS hg
  generalize Q.L.length = many at *
  generalize sumQ Q.L = sum at *
  generalize Q.items = items at *
  generalize Q.bound = bound at *
  generalize Q.drops = drops at *
  have i1 : IntKind.i64.wrap ((bound : Int) - (sum : Int)) = (bound : Int) - (sum : Int) := IntWalk.i64_in _ (by omega)
  obtain ⟨g, eg⟩ : ∃ t, w.heap.size = t := ⟨_, rfl⟩
  obtain ⟨w1, ew1⟩ : ∃ t, w.alloc (.cells #[.slice ao many c, .int .i64 items, .int .i64 bound, .int .u64 drops] 104) = t := ⟨_, rfl⟩
  have HE : Hid (w.heap.size = g) := eg
  have HW : Hid (w.alloc (.cells #[.slice ao many c, .int .i64 items, .int .i64 bound, .int .u64 drops] 104) = w1) := ew1
  rw [ew1] at HS HB HG
  rw [eg] at HG
  clear eg ew1
  have cl : ∀ (x : Wld (fun x => Below w1.heap.size w1 x)) (i : Nat), x.w.cell? ⟨g, i, none⟩ = (#[.slice ao many c, .int .i64 items, .int .i64 bound, .int .u64 drops] : Array Value)[i]? := fun x i => cell_of_block ((x.ok.block g (lt_of_obj HG.out)).trans HG.out) i
  have c0 : ∀ x : Wld (fun x => Below w1.heap.size w1 x), x.w.cell? ⟨g, 0, none⟩ = some (.slice ao many c) := fun x => cl x 0
  have c1 : ∀ x : Wld (fun x => Below w1.heap.size w1 x), x.w.cell? ⟨g, 1, none⟩ = some (.int .i64 items) := fun x => cl x 1
  have c2 : ∀ x : Wld (fun x => Below w1.heap.size w1 x), x.w.cell? ⟨g, 2, none⟩ = some (.int .i64 bound) := fun x => cl x 2
  have c3 : ∀ x : Wld (fun x => Below w1.heap.size w1 x), x.w.cell? ⟨g, 3, none⟩ = some (.int .u64 drops) := fun x => cl x 3
  haveI hne : Nonempty (Wld (fun x => Below w1.heap.size w1 x)) := ⟨⟨w1, Below.refl _ _⟩⟩
  clear cl
  by_cases h0 : 0 ≤ s
  · by_cases h1 : many < items
    · have j1 : (many : Int) < (items : Int) := by omega
      by_cases h2 : s ≤ (bound : Int) - (sum : Int)
      · rw [decide_eq_true ⟨h0, h1, h2⟩]
        go_enter Try.func69, Try.ntmps69
        go_wp2_with fail
        rw [HE.out, HW.out]
        refine region_class (fun x => Below w1.heap.size w1 x) (by kernel_rfl) (by kernel_rfl) (Below.refl _ _).drew ?_
        repeat (go_big_quiet_step ((rename_i x; go_at_call 73; exact (HS.out _ x.ok).mono fun e w' ⟨he, hb⟩ => ⟨he, ⟨w', x.ok.trans (hb.mono x.ok.size)⟩, rfl⟩)))
        refine wpQuiet_nil ?_
        intro w3 hB3
        go_wp2_with fail
        go_ret
        exact ⟨rfl, HB.out.trans (hB3.mono HB.out.size)⟩
      · rw [decide_eq_false (fun h => h2 h.2.2)]
        have j2 : decide (s ≤ (bound : Int) - (sum : Int)) = false := decide_eq_false h2
        go_enter Try.func69, Try.ntmps69
        go_wp2_with fail
        rw [HE.out, HW.out]
        refine region_class (fun x => Below w1.heap.size w1 x) (by kernel_rfl) (by kernel_rfl) (Below.refl _ _).drew ?_
        repeat (go_big_quiet_step ((rename_i x; go_at_call 73; exact (HS.out _ x.ok).mono fun e w' ⟨he, hb⟩ => ⟨he, ⟨w', x.ok.trans (hb.mono x.ok.size)⟩, rfl⟩)))
        refine wpQuiet_nil ?_
        intro w3 hB3
        go_wp2_with fail
        go_ret
        exact ⟨rfl, HB.out.trans (hB3.mono HB.out.size)⟩
    · rw [decide_eq_false (fun h => h1 h.2.1)]
      have j1 : decide (many < items) = false := decide_eq_false h1
      have j2 : decide ((many : Int) < (items : Int)) = false := decide_eq_false (by omega)
      go_enter Try.func69, Try.ntmps69
      go_wp2_with fail
      rw [HE.out, HW.out]
      refine region_class (fun x => Below w1.heap.size w1 x) (by kernel_rfl) (by kernel_rfl) (Below.refl _ _).drew ?_
      repeat (go_big_quiet_step (fail))
      refine wpQuiet_nil ?_
      intro w3 hB3
      go_wp2_with fail
      go_ret
      exact ⟨rfl, HB.out.trans (hB3.mono HB.out.size)⟩
  · rw [decide_eq_false (fun h => h0 h.1)]
    have j1 : decide (0 ≤ s) = false := decide_eq_false h0
    go_enter Try.func69, Try.ntmps69
    go_wp2_with fail
    rw [HE.out, HW.out]
    refine region_class (fun x => Below w1.heap.size w1 x) (by kernel_rfl) (by kernel_rfl) (Below.refl _ _).drew ?_
    repeat (go_big_quiet_step (fail))
    refine wpQuiet_nil ?_
    intro w3 hB3
    go_wp2_with fail
    go_ret
    exact ⟨rfl, HB.out.trans (hB3.mono HB.out.size)⟩
section
attribute [local go_sem ↓] Go.wp_at_zero Go.wp_at_succ

/-- The document's item as a value. -/
def ri (x : It) : Value := .agg #[.int .u64 x.no, .int .i64 x.size, .string (str8 x.data)]

set_option maxRecDepth 100000 in
theorem rpop_nil {w : World} {v : Value} {Q : QS} (h : RL w 0 v Q.L) (h0 : Q.L = []) :
    Calls Try.prog 60 #[rq v Q] w fun e w' => e = .returned (.tuple #[rq v Q, .agg #[.int .u64 0, .int .i64 0, .string ⟨#[]⟩], .bool false]) ∧ Below w.heap.size w w' := by
  obtain ⟨ao, c, rfl⟩ := h.shape
  rw [h0]
  unfold rq
  clear h h0
  generalize Q.items = items at *
  generalize Q.bound = bound at *
  generalize Q.drops = drops at *
  go_enter Try.func60, Try.ntmps60
  go_wp2_with fail
  exact bodyPost_ret (v := .tuple #[.agg #[.slice ao 0 c, .int .i64 items, .int .i64 bound, .int .u64 drops], .agg #[.int .u64 0, .int .i64 0, .string ⟨#[]⟩], .bool false]) (by simp [results, Try.results60, go_sem]) rfl ⟨rfl, (((Below.refl _ _).alloc (Nat.le_refl _) _).alloc (by simp) _).alloc (by simp; omega) _⟩

/-- One off ahead. -/
theorem RL.tail {w : World} {B : Nat} {g o n c : Nat} {x : It} {L : List It} (h : RL w B (.slice (some ⟨g, o, none⟩) n c) (x :: L)) : n = L.length + 1 ∧ 1 ≤ c ∧ B ≤ g ∧
    RL w B (.slice (if c = 1 then some ⟨g, o, none⟩ else some ⟨g, o + 3, none⟩) L.length (c - 1)) L := by
  rcases h with ⟨hv, _⟩ | ⟨g', o', c', cur, hv, hg, hh, hc, hx⟩
  · cases hv
  · injection hv with e1 e2 e3
    injection e1 with e1
    injection e1 with e1 e4 _
    subst e1 e4 e3
    simp only [List.length_cons] at e2 hc
    refine ⟨e2, by omega, hg, ?_⟩
    by_cases h1 : c = 1
    · subst h1
      exact .inr ⟨g, o, 0, cur, by simp, hg, hh, by omega, fun i y hi => by have := (List.getElem?_eq_some_iff.1 hi).1; omega⟩
    · refine .inr ⟨g, o + 3, c - 1, cur, by simp [h1], hg, hh, by omega, fun i y hi => ?_⟩
      have := hx (i + 1) y (by simpa using hi)
      rw [show o + 3 + i * 3 = o + (i + 1) * 3 by omega]
      exact this

/-- Behind Pop. -/
def RPop (w : World) (B : Nat) (v : Value) (Q : QS) (x : It) (L : List It) (e : Ending) (w' : World) : Prop :=
  ∃ v', e = .returned (.tuple #[rq v' { Q with L := L }, ri x, .bool true]) ∧ RL w' B v' L ∧ Below w.heap.size w w' ∧ v'.ownBlock = v.ownBlock

set_option maxRecDepth 100000 in
theorem rpop_is {w : World} {B : Nat} {v : Value} {Q : QS} {x : It} {L : List It} (h : RL w B v Q.L) (hL : Q.L = x :: L) :
    Calls Try.prog 60 #[rq v Q] w (RPop w B v Q x L) := by
  rw [hL] at h
  obtain ⟨ao, c, rfl⟩ := h.shape
  obtain ⟨g, o, rfl, x0, x1, x2⟩ := h.at (i := 0) (x := x) rfl
  have hB : Below w.heap.size w _ := (((Below.refl _ w).alloc (Nat.le_refl _) (.cells #[.slice (some ⟨g, o, none⟩) (x :: L).length c, .int .i64 Q.items, .int .i64 Q.bound, .int .u64 Q.drops] 104)).alloc (by simp) (.cells #[.slice none 0 0, .int .i64 0, .int .i64 0, .int .u64 0] 104)).alloc (by simp; omega) (.cells #[.int .u64 0, .int .i64 0, .string ⟨#[]⟩] 42)
  obtain ⟨hn, hc1, hg, ht⟩ := h.tail
  have hgw : g < w.heap.size := (h.ge g rfl).2
  have HT := Lib.hid ht
  have HE : Hid (∀ y : Nat, (if c = 1 then some (⟨g, o, none⟩ : Addr) else some ⟨g, y, none⟩).map (·.block) = some g) := by
    intro y; split <;> rfl
  simp only [Nat.zero_mul, Nat.add_zero] at x0 x1 x2
  have y0 := (hB.cell (p := ⟨g, o, none⟩) hgw).trans x0
  have y1 := (hB.cell (p := ⟨g, o + 1, none⟩) hgw).trans x1
  have y2 := (hB.cell (p := ⟨g, o + 2, none⟩) hgw).trans x2
  simp only [List.length_cons] at y0 y1 y2
  have HB := Lib.hid hB
  unfold RPop rq ri
  clear h ht hn hL hB x0 x1 x2
  generalize Q.items = items at *
  generalize Q.bound = bound at *
  generalize Q.drops = drops at *
  generalize str8 x.data = s at *
  by_cases h1 : c = 1
  · subst h1
    rw [if_pos (rfl : (1 : Nat) = 1)] at HT
    clear HE
    go_enter Try.func60, Try.ntmps60
    go_wp2_with fail
    clear y0 y1 y2
    go_region
    all_goals
      go_wp2_with fail
      have hBf : Below w.heap.size w (((((w.alloc (.cells #[.slice (some ⟨g, o, none⟩) L.length 0, .int .i64 items, .int .i64 bound, .int .u64 drops] 104)).alloc (.cells #[.slice (some ⟨g, o, none⟩) L.length 0, .int .i64 items, .int .i64 bound, .int .u64 drops] 104)).alloc (.cells #[.int .u64 x.no, .int .i64 x.size, .string s] 42)).alloc (.cells #[.int .u64 x.no, .int .i64 x.size, .string s] 42)).drew) :=
        (((((Below.refl _ _).alloc (Nat.le_refl _) _).alloc (by simp) _).alloc (by simp; omega) _).alloc (by simp; omega) _).drew
      exact bodyPost_ret (v := .tuple #[.agg #[.slice (some ⟨g, o, none⟩) L.length 0, .int .i64 items, .int .i64 bound, .int .u64 drops], .agg #[.int .u64 x.no, .int .i64 x.size, .string s], .bool true]) (by simp [results, Try.results60, go_sem]) rfl ⟨_, rfl, HT.out.below hBf, hBf, rfl⟩
  · rw [if_neg h1] at HT
    clear HE
    go_enter Try.func60, Try.ntmps60
    go_wp2_with fail
    clear y0 y1 y2
    go_region
    all_goals
      go_wp2_with fail
      have hBf : Below w.heap.size w (((((w.alloc (.cells #[.slice (some ⟨g, o + 3, none⟩) L.length (c - 1), .int .i64 items, .int .i64 bound, .int .u64 drops] 104)).alloc (.cells #[.slice (some ⟨g, o + 3, none⟩) L.length (c - 1), .int .i64 items, .int .i64 bound, .int .u64 drops] 104)).alloc (.cells #[.int .u64 x.no, .int .i64 x.size, .string s] 42)).alloc (.cells #[.int .u64 x.no, .int .i64 x.size, .string s] 42)).drew) :=
        (((((Below.refl _ _).alloc (Nat.le_refl _) _).alloc (by simp) _).alloc (by simp; omega) _).alloc (by simp; omega) _).drew
      exact bodyPost_ret (v := .tuple #[.agg #[.slice (some ⟨g, o + 3, none⟩) L.length (c - 1), .int .i64 items, .int .i64 bound, .int .u64 drops], .agg #[.int .u64 x.no, .int .i64 x.size, .string s], .bool true]) (by simp [results, Try.results60, go_sem]) rfl ⟨_, rfl, HT.out.below hBf, hBf, rfl⟩
end

/-- Items as cells. -/
def rCells : List It → List Value
  | [] => []
  | x :: L => .int .u64 x.no :: .int .i64 x.size :: .string (str8 x.data) :: rCells L
theorem rCells_len (L : List It) : (rCells L).length = L.length * 3 := by
  induction L with
  | nil => rfl
  | cons x L ih => simp only [rCells, List.length_cons, ih]; omega
theorem rCells_snoc (L : List It) (x : It) : rCells L ++ [.int .u64 x.no, .int .i64 x.size, .string (str8 x.data)] = rCells (L ++ [x]) := by
  induction L with
  | nil => rfl
  | cons y L ih => simp only [rCells, List.cons_append, ih]
theorem rCells_get : ∀ (L : List It) (i : Nat) (x : It), L[i]? = some x →
    (rCells L)[i * 3]? = some (.int .u64 x.no) ∧ (rCells L)[i * 3 + 1]? = some (.int .i64 x.size) ∧ (rCells L)[i * 3 + 2]? = some (.string (str8 x.data))
  | [], i, x, h => by simp at h
  | y :: L, 0, x, h => by
    simp at h
    subst h
    exact ⟨rfl, rfl, rfl⟩
  | y :: L, i + 1, x, h => by
    have ih := rCells_get L i x (by simpa using h)
    rw [show (i + 1) * 3 = i * 3 + 3 by omega]
    exact ih
theorem rCells_one (L : List It) : ∀ u ∈ rCells L, u.oneCell' = true := by
  induction L with
  | nil => intro u h; simp [rCells] at h
  | cons x L ih =>
    intro u h
    simp only [rCells, List.mem_cons] at h
    rcases h with rfl | rfl | rfl | h
    · rfl
    · rfl
    · rfl
    · exact ih u h

/-- The row's cells. -/
theorem RL.cells {w : World} {B : Nat} {ad : Addr} {n c : Nat} {L : List It} (h : RL w B (.slice (some ad) n c) L) : ∀ j u, (rCells L)[j]? = some u → w.cell? (ad.add j) = some u := by
  intro j u hu
  have hj : j < (rCells L).length := (List.getElem?_eq_some_iff.1 hu).1
  rw [rCells_len] at hj
  obtain ⟨x, hx⟩ : ∃ x, L[j / 3]? = some x := ⟨_, List.getElem?_eq_getElem (by omega)⟩
  obtain ⟨g, o, e, h0, h1, h2⟩ := h.at hx
  injection e with e
  subst e
  obtain ⟨k0, k1, k2⟩ := rCells_get L _ x hx
  rw [Addr.add_lit]
  rcases (show j = j / 3 * 3 ∨ j = j / 3 * 3 + 1 ∨ j = j / 3 * 3 + 2 by omega) with hh | hh | hh
  · rw [hh] at hu ⊢
    rw [k0] at hu
    injection hu with hu
    subst hu
    exact h0
  · rw [hh] at hu ⊢
    rw [k1] at hu
    injection hu with hu
    subst hu
    exact h1
  · rw [hh] at hu ⊢
    rw [k2] at hu
    injection hu with hu
    subst hu
    exact h2

/-- An owned row of items is such a row. -/
theorem rl_own {w : World} {B : Nat} {v : Value} {L : List It} (h : w.ownsRow B 42 3 v L.length (rCells L)) : RL w B v L := by
  rcases h.2 with ⟨hv, h0⟩ | ⟨g, cap, cur, hv, hg, hh, hnc, hcm, hcs, hx⟩
  · exact .inl ⟨hv, List.eq_nil_of_length_eq_zero h0⟩
  · refine .inr ⟨g, 0, cap, cur, hv, hg, hh, hnc, fun i x hi => ?_⟩
    have hil := (List.getElem?_eq_some_iff.1 hi).1
    obtain ⟨k0, k1, k2⟩ := rCells_get L i x hi
    rw [← hx] at k0 k1 k2
    rw [List.getElem?_take_of_lt (by omega)] at k0 k1 k2
    rw [Nat.zero_add]
    exact ⟨by simpa using k0, by simpa using k1, by simpa using k2⟩

theorem RL.raise {w : World} {B B' : Nat} {v : Value} {L : List It} (h : RL w B v L) (hB : ∀ k, v.ownBlock = some k → B' ≤ k) : RL w B' v L := by
  rcases h with h | ⟨g, o, c, cur, hv, hg, h⟩
  · exact .inl h
  · exact .inr ⟨g, o, c, cur, hv, hB g (by rw [hv]; rfl), h⟩

theorem info_ri : (Try.prog.info? 42).map (fun i => (i.zero, i.size, i.bytes)) = some (some (.agg #[.int .u64 0, .int .i64 0, .string ⟨#[]⟩]), 3, 32) := by kernel_rfl

set_option maxRecDepth 100000 in
theorem rpush_bad (no sz : Int) (s : ByteArray) (hz : sz < 0) {w : World} {v : Value} {Q : QS} (h : RL w 0 v Q.L) :
    Calls Try.prog 59 #[rq v Q, .agg #[.int .u64 no, .int .i64 sz, .string s]] w fun e w' => e = .returned (.tuple #[rq v Q, .int .i64 2]) ∧ Below w.heap.size w w' := by
  obtain ⟨ao, c, rfl⟩ := h.shape
  unfold rq
  clear h
  generalize Q.L.length = n at *
  generalize Q.items = items at *
  generalize Q.bound = bound at *
  generalize Q.drops = drops at *
  go_enter Try.func59, Try.ntmps59
  go_wp2_with fail
  exact bodyPost_ret (v := .tuple #[.agg #[.slice ao n c, .int .i64 items, .int .i64 bound, .int .u64 drops], .int .i64 2]) (by simp [results, Try.results59, go_sem]) rfl ⟨rfl, (((Below.refl _ _).alloc (Nat.le_refl _) _).alloc (by simp) _).alloc (by simp; omega) _⟩

/-- Behind Push. -/
def RPush (w : World) (Q : QS) (x : It) (e : Ending) (w' : World) : Prop :=
  ∃ v', e = .returned (.tuple #[rq v' (pushed Q x), .int .i64 0]) ∧ RL w' w.heap.size v' (Q.L ++ [x]) ∧ Below w.heap.size w w'

set_option maxRecDepth 100000 in
theorem rpush_full (x : It) {w : World} {B : Nat} {v : Value} {Q : QS} (h : RL w B v Q.L) (hf : Q.L.length ≤ 65536) (hi : Q.items ≤ 65536) (hs : sumQ Q.L ≤ Q.bound) (hb : Q.bound ≤ 9223372036854775807) (hr : roomB Q x.size = false) (hd : Q.drops ≤ 1000000) :
    Calls Try.prog 59 #[rq v Q, ri x] w fun e w' => e = .returned (.tuple #[rq v { Q with drops := Q.drops + 1 }, .int .i64 110]) ∧ Below w.heap.size w w' := by
  obtain ⟨ao, c, rfl⟩ := h.shape
  have hrr : ∀ w', Below w.heap.size w w' → Calls Try.prog 69 #[.agg #[.slice ao Q.L.length c, .int .i64 Q.items, .int .i64 Q.bound, .int .u64 Q.drops], .int .i64 x.size] w' fun e w'' => e = .returned (.bool false) ∧ Below w'.heap.size w' w'' := fun w' hB => by
    have := rroom_is (h.below hB) hf hi hs hb x.size
    rw [hr] at this
    exact this
  have HR := Lib.hid hrr
  have e1 : ¬ (x.size : Int) < 0 := by omega
  unfold rq ri
  clear h hr hrr hf hi hs hb
  generalize Q.L.length = n at *
  generalize Q.items = items at *
  generalize Q.bound = bound at *
  generalize Q.drops = drops at *
  generalize str8 x.data = s at *
  generalize x.no = no at *
  generalize x.size = sz at *
  have hB3 : Below w.heap.size w (((w.alloc (.cells #[.slice ao n c, .int .i64 items, .int .i64 bound, .int .u64 drops] 104)).alloc (.cells #[.int .u64 no, .int .i64 sz, .string s] 42)).alloc (.cells #[.slice none 0 0, .int .i64 0, .int .i64 0, .int .u64 0] 104)) := (((Below.refl _ _).alloc (Nat.le_refl _) _).alloc (by simp) _).alloc (by simp; omega) _
  have hG0 : (((w.alloc (.cells #[.slice ao n c, .int .i64 items, .int .i64 bound, .int .u64 drops] 104)).alloc (.cells #[.int .u64 no, .int .i64 sz, .string s] 42)).alloc (.cells #[.slice none 0 0, .int .i64 0, .int .i64 0, .int .u64 0] 104)).heap[w.heap.size]? = some (.cells #[.slice ao n c, .int .i64 items, .int .i64 bound, .int .u64 drops] 104 (0, 0)) := (alloc_block_old _ (by simp; omega)).trans ((alloc_block_old _ (by simp)).trans (alloc_block_new w _))
  have hG2 : (((w.alloc (.cells #[.slice ao n c, .int .i64 items, .int .i64 bound, .int .u64 drops] 104)).alloc (.cells #[.int .u64 no, .int .i64 sz, .string s] 42)).alloc (.cells #[.slice none 0 0, .int .i64 0, .int .i64 0, .int .u64 0] 104)).heap[w.heap.size + 1 + 1]? = some (.cells #[.slice none 0 0, .int .i64 0, .int .i64 0, .int .u64 0] 104 (0, 0)) := alloc_block_at _ _ (by simp)
  have H3 := Lib.hid (And.intro hB3 (And.intro hG0 hG2))
  clear hB3 hG0 hG2
  go_enter Try.func59, Try.ntmps59
  go_wp2_with fail
  refine (HR.out _ H3.out.1).mono ?_
  rintro e w4 ⟨rfl, hB4⟩
  obtain ⟨hB3, hG0, hG2⟩ := H3.out
  have h40 := (hB4.block _ (lt_of_obj hG0)).trans hG0
  have h42 := (hB4.block _ (lt_of_obj hG2)).trans hG2
  have hBw := hB3.trans (hB4.mono hB3.size)
  obtain ⟨g0, eg0⟩ : ∃ t, w.heap.size = t := ⟨_, rfl⟩
  obtain ⟨g2, eg2⟩ : ∃ t, g0 + 1 + 1 = t := ⟨_, rfl⟩
  rw [eg0] at h40 h42 ⊢
  rw [eg2] at h42 ⊢
  have hne : ¬ g0 = g2 := by omega
  have hne' : ¬ g2 = g0 := by omega
  have hlt : w.heap.size ≤ g2 := by omega
  have hlt0 : w.heap.size ≤ g0 := by omega
  have k0 : w4.cell? ⟨g0, 0, none⟩ = _ := cell_of_block h40 0
  have k1 : w4.cell? ⟨g0, 1, none⟩ = _ := cell_of_block h40 1
  have k2 : w4.cell? ⟨g0, 2, none⟩ = _ := cell_of_block h40 2
  have k3 : w4.cell? ⟨g0, 3, none⟩ = _ := cell_of_block h40 3
  have m0 : w4.cell? ⟨g2, 0, none⟩ = _ := cell_of_block h42 0
  have m1 : w4.cell? ⟨g2, 1, none⟩ = _ := cell_of_block h42 1
  have m2 : w4.cell? ⟨g2, 2, none⟩ = _ := cell_of_block h42 2
  have m3 : w4.cell? ⟨g2, 3, none⟩ = _ := cell_of_block h42 3
  have f0 := free_of_block h40 3
  have f1 := free_of_block h42 0
  have f2 := free_of_block h42 1
  have f3 := free_of_block h42 2
  have f4 := free_of_block h42 3
  dsimp at k0 k1 k2 k3 m0 m1 m2 m3
  have HB := Lib.hid hBw
  have HE0 := Lib.hid eg0
  clear hB3 hG0 hG2 h40 h42 hB4 HR H3 hBw eg0 eg2
  have hd1 : IntKind.u64.wrap ((drops : Int) + 1) = ((drops + 1 : Nat) : Int) := by rw [IntWalk.u64_in _ (by omega)]; omega
  go_wp2_with fail
  have hs0 := HE0.out
  refine bodyPost_ret (v := .tuple #[.agg #[.slice ao n c, .int .i64 items, .int .i64 bound, .int .u64 ((drops : Int) + 1)], .int .i64 110]) (by simp [results, Try.results59, go_sem, m0, m1, m2, m3, hne, hne']) rfl ⟨by rw [Int.natCast_add]; rfl, ?_⟩
  exact ((((HB.out.setCell (p := ⟨g0, 3, none⟩) hlt0 _).setCell (p := ⟨g2, 0, none⟩) hlt _).setCell (p := ⟨g2, 1, none⟩) hlt _).setCell (p := ⟨g2, 2, none⟩) hlt _).setCell (p := ⟨g2, 3, none⟩) hlt _

/-- A row appended onto nothing. -/
theorem wpList_append_rl {w : World} {ops : Array Oper} {rest : List Oper} {op : Oper} {a : Act} {Q : Exit → Act → World → Prop} (hgd : op.guard = none) (s x : Operand)
    (ho : op.op = .call { callee := .builtin .append, args := #[s, x], argTypes := #[102, 102] })
    {B : Nat} {v : Value} {L : List It} (hs : a.eval s = .slice none 0 0) (hx : a.eval x = v) (hR : RL w B v L) (hlen : L.length ≤ 65536)
    (h : ∀ v' w', w'.ownsRow w.heap.size 42 3 v' L.length (rCells L) → Below w.heap.size w w' → wpList Try.prog ops Q rest (a.put op.dst v') w') :
    wpList Try.prog ops Q (op :: rest) a w := by
  obtain ⟨i0, hi, hz0, hz1, hz2⟩ := info_parts info_ri
  rcases id hR with ⟨hv, rfl⟩ | ⟨g, o, c, cur, hv, hg, hh, hc, hcs⟩
  · subst hv
    exact wpList_append_own_none hgd s x _ ho w.heap.size 42 i0 3 Try.underlying102 hi _ 0 [] hs (World.ownsRow_nil w _ _ _) hx (h _ _ (World.ownsRow_nil w _ _ _) (Below.refl _ _))
  · subst hv
    refine wpList_append_own w hgd s x _ ho w.heap.size 42 i0 (.agg #[.int .u64 0, .int .i64 0, .string ⟨#[]⟩]) 3 32 Try.underlying102 hi hz0 hz1 hz2 rfl (by decide) (.slice none 0 0) 0 [] hs (World.ownsRow_nil w _ _ _) ⟨g, o, none⟩ L.length c (rCells L) hx (rCells_len L) hR.cells (rCells_one L) (by unfold maxLen; omega) (by omega) (Nat.le_refl _) (fun v' w' ho' hg' _ => h v' w' (by simpa using ho') ?_)
    exact ⟨hg'.os, hg'.tape, hg'.output, hg'.size, fun k hk => hg'.block k hk (by simp [Value.ownBlock])⟩

set_option maxRecDepth 100000 in
theorem rpush_ok (x : It) {w : World} {B : Nat} {v : Value} {Q : QS} (h : RL w B v Q.L) (hf : Q.L.length ≤ 65535) (hi : Q.items ≤ 65536) (hs : sumQ Q.L ≤ Q.bound) (hb : Q.bound ≤ 9223372036854775807) (hr : roomB Q x.size = true) :
    Calls Try.prog 59 #[rq v Q, ri x] w (RPush w Q x) := by
  obtain ⟨ao, c, rfl⟩ := h.shape
  have hrr : ∀ w', Below w.heap.size w w' → Calls Try.prog 69 #[.agg #[.slice ao Q.L.length c, .int .i64 Q.items, .int .i64 Q.bound, .int .u64 Q.drops], .int .i64 x.size] w' fun e w'' => e = .returned (.bool true) ∧ Below w'.heap.size w' w'' := fun w' hB => by
    have := rroom_is (h.below hB) (by omega) hi hs hb x.size
    rw [hr] at this
    exact this
  have HR := Lib.hid hrr
  have H := Lib.hid h
  have HSN := Lib.hid (rCells_snoc Q.L x)
  have e1 : ¬ (x.size : Int) < 0 := by omega
  unfold RPush pushed rq ri
  clear h hr hrr hi hs hb
  generalize Q.items = items at *
  generalize Q.bound = bound at *
  generalize Q.drops = drops at *
  generalize str8 x.data = s at *
  have hB3 : Below w.heap.size w (((w.alloc (.cells #[.slice ao Q.L.length c, .int .i64 items, .int .i64 bound, .int .u64 drops] 104)).alloc (.cells #[.int .u64 x.no, .int .i64 x.size, .string s] 42)).alloc (.cells #[.slice none 0 0, .int .i64 0, .int .i64 0, .int .u64 0] 104)) := (((Below.refl _ _).alloc (Nat.le_refl _) _).alloc (by simp) _).alloc (by simp; omega) _
  have hG0 : (((w.alloc (.cells #[.slice ao Q.L.length c, .int .i64 items, .int .i64 bound, .int .u64 drops] 104)).alloc (.cells #[.int .u64 x.no, .int .i64 x.size, .string s] 42)).alloc (.cells #[.slice none 0 0, .int .i64 0, .int .i64 0, .int .u64 0] 104)).heap[w.heap.size]? = some (.cells #[.slice ao Q.L.length c, .int .i64 items, .int .i64 bound, .int .u64 drops] 104 (0, 0)) := (alloc_block_old _ (by simp; omega)).trans ((alloc_block_old _ (by simp)).trans (alloc_block_new w _))
  have hG1 : (((w.alloc (.cells #[.slice ao Q.L.length c, .int .i64 items, .int .i64 bound, .int .u64 drops] 104)).alloc (.cells #[.int .u64 x.no, .int .i64 x.size, .string s] 42)).alloc (.cells #[.slice none 0 0, .int .i64 0, .int .i64 0, .int .u64 0] 104)).heap[w.heap.size + 1]? = some (.cells #[.int .u64 x.no, .int .i64 x.size, .string s] 42 (0, 0)) := (alloc_block_old _ (by simp)).trans (alloc_block_at _ _ (by simp))
  have hG2 : (((w.alloc (.cells #[.slice ao Q.L.length c, .int .i64 items, .int .i64 bound, .int .u64 drops] 104)).alloc (.cells #[.int .u64 x.no, .int .i64 x.size, .string s] 42)).alloc (.cells #[.slice none 0 0, .int .i64 0, .int .i64 0, .int .u64 0] 104)).heap[w.heap.size + 1 + 1]? = some (.cells #[.slice none 0 0, .int .i64 0, .int .i64 0, .int .u64 0] 104 (0, 0)) := alloc_block_at _ _ (by simp)
  have H3 := Lib.hid (And.intro hB3 (And.intro hG0 (And.intro hG1 hG2)))
  clear hB3 hG0 hG1 hG2
  go_enter Try.func59, Try.ntmps59
  go_wp2_with fail
  refine (HR.out _ H3.out.1).mono ?_
  rintro e w4 ⟨rfl, hB4⟩
  obtain ⟨hB3, hG0, hG1, hG2⟩ := H3.out
  have h40 := (hB4.block _ (lt_of_obj hG0)).trans hG0
  have h41 := (hB4.block _ (lt_of_obj hG1)).trans hG1
  have h42 := (hB4.block _ (lt_of_obj hG2)).trans hG2
  have hBw := hB3.trans (hB4.mono hB3.size)
  have h4 := H.out.below hBw
  obtain ⟨g0, eg0⟩ : ∃ t, w.heap.size = t := ⟨_, rfl⟩
  obtain ⟨g1, eg1⟩ : ∃ t, g0 + 1 = t := ⟨_, rfl⟩
  obtain ⟨g2, eg2⟩ : ∃ t, g1 + 1 = t := ⟨_, rfl⟩
  rw [eg0] at h40 h41 h42 ⊢
  rw [eg1] at h41 h42 ⊢
  rw [eg2] at h42 ⊢
  have hne : ¬ g0 = g2 := by omega
  have hne' : ¬ g2 = g0 := by omega
  have hlt : w.heap.size ≤ g2 := by omega
  have hlt0 : w.heap.size ≤ g0 := by omega
  have k0 : w4.cell? ⟨g0, 0, none⟩ = _ := cell_of_block h40 0
  dsimp at k0
  have HB := Lib.hid hBw
  have HE0 := Lib.hid eg0
  have H4 := Lib.hid h4
  have H40 := Lib.hid h40
  have H41 := Lib.hid h41
  have H42 := Lib.hid h42
  clear hB3 hG0 hG1 hG2 h40 h41 h42 hB4 HR H3 hBw eg0 eg1 eg2 h4 H
  go_wp2_with (first | (at_builtin; refine wpList_append_rl rfl (.tmp 21) (.tmp 23) rfl rfl rfl H4.out (by omega) ?_))
  intro v1 w5 ho1 hB5
  have h50 := (hB5.block _ (lt_of_obj H40.out)).trans H40.out
  have h51 := (hB5.block _ (lt_of_obj H41.out)).trans H41.out
  have h52 := (hB5.block _ (lt_of_obj H42.out)).trans H42.out
  have hBx := HB.out.trans (hB5.mono HB.out.size)
  have hsz := HB.out.size
  have hn0 := lt_of_obj H40.out
  have hn1 := lt_of_obj H41.out
  have hn2 := lt_of_obj H42.out
  have hn5 := hB5.size
  have x0 : w5.cell? ⟨g1, 0, none⟩ = _ := cell_of_block h51 0
  have x1 : w5.cell? ⟨g1, 1, none⟩ = _ := cell_of_block h51 1
  have x2 : w5.cell? ⟨g1, 2, none⟩ = _ := cell_of_block h51 2
  dsimp at x0 x1 x2
  have HO1 := Lib.hid ho1
  have HBX := Lib.hid hBx
  have H50 := Lib.hid h50
  have H52 := Lib.hid h52
  have hv0 : ∀ k, v1.ownBlock = some k → w4.heap.size ≤ k := own_ge ho1
  have HV0 := Lib.hid hv0
  clear k0 ho1 hB5 hBx h50 h51 h52 H40 H41 H42 HB H4 hv0
  obtain ⟨i0, hi, hz0, hz1, hz2⟩ := info_parts info_ri
  go_wp2_with (first | (at_builtin; refine wpList_append_row _ rfl (.tmp 25) (.tmp 27) _ rfl 42 i0 (.agg #[.int .u64 0, .int .i64 0, .string ⟨#[]⟩]) 3 32 Try.underlying102 hi hz0 hz1 hz2 rfl (by decide) v1 Q.L.length (rCells Q.L) rfl ?_ ⟨w5.heap.size, 0, none⟩ 1 1 [.int .u64 x.no, .int .i64 x.size, .string s] rfl rfl (three_new _ _ _ _ _) ?_ ?_ ?_ ?_))
  · exact (own_lower HO1.out (Nat.zero_le _)).alloc _
  · intro u hu
    simp at hu
    rcases hu with rfl | rfl | rfl <;> rfl
  · unfold maxLen; omega
  · omega
  · intro v2 w6 ho2 hg2 hnew
    have hA := (Below.refl w5.heap.size w5).alloc (Nat.le_refl _) (.cells #[.int .u64 x.no, .int .i64 x.size, .string s] 42)
    have hO : Only (fun k => v1.ownBlock = some k) w5 w6 := (Below.only hA _).trans ((Only.refl _ _).grown hg2 (fun k hk _ => hk))
    have hs5 := HBX.out.size
    have hge : ∀ k, v2.ownBlock = some k → w4.heap.size ≤ k := fun k hk => by
      rcases hnew with e | e
      · exact HV0.out k (by rw [← e]; exact hk)
      · rw [hk] at e
        injection e with e
        subst e
        exact Nat.le_succ_of_le hn5
    have hl : (Q.L ++ [x]).length = Q.L.length + 1 := by simp
    rw [HSN.out, ← hl] at ho2
    obtain ⟨va, vc, ev⟩ := own_shape ho2
    have hR := (rl_own ho2).raise (fun k hk => Nat.le_trans hsz (hge k hk))
    rw [hl] at ev
    subst ev
    have h60 := hO.keep H50.out (fun e => by have := HV0.out _ e; omega)
    have h62 := hO.keep H52.out (fun e => by have := HV0.out _ e; omega)
    have hB6 := HBX.out.trans (hO.below HBX.out.size (fun k hk e => by have := HV0.out _ e; omega))
    have k0 : w6.cell? ⟨g0, 0, none⟩ = _ := cell_of_block h60 0
    have k1 : w6.cell? ⟨g0, 1, none⟩ = _ := cell_of_block h60 1
    have k2 : w6.cell? ⟨g0, 2, none⟩ = _ := cell_of_block h60 2
    have k3 : w6.cell? ⟨g0, 3, none⟩ = _ := cell_of_block h60 3
    have m0 : w6.cell? ⟨g2, 0, none⟩ = _ := cell_of_block h62 0
    have m1 : w6.cell? ⟨g2, 1, none⟩ = _ := cell_of_block h62 1
    have m2 : w6.cell? ⟨g2, 2, none⟩ = _ := cell_of_block h62 2
    have m3 : w6.cell? ⟨g2, 3, none⟩ = _ := cell_of_block h62 3
    have f0 := free_of_block h60 0
    have f1 := free_of_block h62 0
    have f2 := free_of_block h62 1
    have f3 := free_of_block h62 2
    have f4 := free_of_block h62 3
    dsimp at k0 k1 k2 k3 m0 m1 m2 m3
    have HR6 := Lib.hid hR
    have HB6 := Lib.hid hB6
    have HGE := Lib.hid hge
    clear hA hO hs5 hge hl ho2 hR h60 h62 hB6 hg2 hnew H50 H52 HO1 HBX HV0 x0 x1 x2 HSN hi hz0 hz1 hz2
    go_wp2_with fail
    have hO7 : Only (fun k => k = g0 ∨ k = g2) w6 (((((w6.setCell ⟨g0, 0, none⟩ (.slice va (Q.L.length + 1) vc)).setCell ⟨g2, 0, none⟩ (.slice va (Q.L.length + 1) vc)).setCell ⟨g2, 1, none⟩ (.int .i64 items)).setCell ⟨g2, 2, none⟩ (.int .i64 bound)).setCell ⟨g2, 3, none⟩ (.int .u64 drops)) :=
      Only.setCell (p := ⟨g2, 3, none⟩) (Only.setCell (p := ⟨g2, 2, none⟩) (Only.setCell (p := ⟨g2, 1, none⟩) (Only.setCell (p := ⟨g2, 0, none⟩) (Only.setCell (p := ⟨g0, 0, none⟩) (Only.refl _ w6) (fun _ => .inl rfl) _) (fun _ => .inr rfl) _) (fun _ => .inr rfl) _) (fun _ => .inr rfl) _) (fun _ => .inr rfl) _
    refine bodyPost_ret (v := .tuple #[.agg #[.slice va (Q.L.length + 1) vc, .int .i64 items, .int .i64 bound, .int .u64 drops], .int .i64 0]) (by simp [results, Try.results59, go_sem, m0, m1, m2, m3, hne, hne']) rfl ⟨_, rfl, HR6.out.keep hO7 (fun k hk e => by have := HGE.out k hk; omega), HB6.out.trans (hO7.below HB6.out.size (fun k hk e => by omega))⟩
theorem str8_nil : str8 [] = ⟨#[]⟩ := by simp [str8, strOfNums]
theorem Que.sum {w : World} {p : Nat} {r : Nat → Nat} {Q : QS} (h : Que w p r Q) : sumQ Q.L ≤ Q.bound := let ⟨_, _, _, _, h⟩ := h; h.sum
/-- The document's queue in memory: a row, and its values. -/
structure RQ (w : World) (B : Nat) (v : Value) (Q : QS) : Prop where
  rl : RL w B v Q.L
  len : Q.L.length ≤ 65536
  its : Q.items ≤ 65536
  sum : sumQ Q.L ≤ Q.bound
  bnd : Q.bound ≤ 9223372036854775807

theorem RQ.below {w w' : World} {B : Nat} {v : Value} {Q : QS} (h : RQ w B v Q) (hB : Below w.heap.size w w') : RQ w' B v Q := ⟨h.rl.below hB, h.len, h.its, h.sum, h.bnd⟩
theorem Que.rq {w0 w : World} {p : Nat} {r : Nat → Nat} {Q : QS} (h : Que w0 p r Q) {B : Nat} {v : Value} (hR : RL w B v Q.L) : RQ w B v Q := ⟨hR, h.len, h.its, h.sum, h.bnd⟩

/-- Behind the document's Push. -/
def RPushAny (w : World) (B : Nat) (v : Value) (Q' : QS) (c : Int) (e : Ending) (w' : World) : Prop :=
  ∃ a k, e = .returned (.tuple #[.agg #[.slice a Q'.L.length k, .int .i64 Q'.items, .int .i64 Q'.bound, .int .u64 Q'.drops], .int .i64 c]) ∧ RL w' B (.slice a Q'.L.length k) Q'.L ∧ Below w.heap.size w w' ∧
    ∀ j, (Value.slice a Q'.L.length k).ownBlock = some j → v.ownBlock = some j ∨ w.heap.size ≤ j

theorem roomB_lt {Q : QS} {s : Int} (h : roomB Q s = true) : Q.L.length < Q.items := by
  unfold roomB at h
  exact (of_decide_eq_true h).2.1

theorem rpush_any (no : Nat) (sz : Int) (ds : List Nat) {w : World} {B : Nat} {v : Value} {Q : QS} (h : RQ w B v Q) (hB : B ≤ w.heap.size) (hdr : Q.drops ≤ 1000000) :
    Calls Try.prog 59 #[rq v Q, .agg #[.int .u64 no, .int .i64 sz, .string (str8 ds)]] w (RPushAny w B v (pushA Q no sz ds) (pushC Q sz)) := by
  unfold pushA pushC
  obtain ⟨a, c, ev⟩ := h.rl.shape
  by_cases hs : sz < 0
  · rw [if_pos hs, if_pos hs]
    refine (rpush_bad no sz (str8 ds) hs (h.rl.raise (fun _ _ => Nat.zero_le _))).mono ?_
    rintro e w' ⟨rfl, hB⟩
    have hR := h.rl.below hB
    rw [ev] at hR ⊢
    exact ⟨a, c, rfl, hR, hB, fun j hj => .inl hj⟩
  · rw [if_neg hs, if_neg hs]
    obtain ⟨n, rfl⟩ : ∃ n : Nat, sz = n := ⟨sz.toNat, by omega⟩
    rw [Int.toNat_natCast]
    unfold pushR
    cases hr : roomB Q n with
    | true =>
      rw [if_pos rfl, if_pos rfl]
      have := roomB_lt hr
      have := h.its
      refine (rpush_ok ⟨no, n, ds⟩ h.rl (by omega) h.its h.sum h.bnd hr).mono ?_
      rintro e w' ⟨v', rfl, hR, hBw⟩
      obtain ⟨a', c', ev'⟩ := hR.shape
      rw [ev'] at hR ⊢
      exact ⟨a', c', rfl, hR.raise (fun j hj => Nat.le_trans hB (hR.ge j hj).1), hBw, fun j hj => .inr (hR.ge j hj).1⟩
    | false =>
      rw [if_neg (by decide), if_neg (by decide)]
      refine (rpush_full ⟨no, n, ds⟩ h.rl h.len h.its h.sum h.bnd hr hdr).mono ?_
      rintro e w' ⟨rfl, hB⟩
      have hR := h.rl.below hB
      rw [ev] at hR ⊢
      exact ⟨a, c, rfl, hR, hB, fun j hj => .inl hj⟩

/-- Behind the document's Pop. -/
def RPopA (w : World) (B : Nat) (v : Value) (Q : QS) (e : Ending) (w' : World) : Prop :=
  ∃ a k, e = .returned (.tuple #[.agg #[.slice a (popA Q).L.length k, .int .i64 Q.items, .int .i64 Q.bound, .int .u64 Q.drops], .agg #[.int .u64 (hdIt Q.L).no, .int .i64 (hdIt Q.L).size, .string (str8 (hdIt Q.L).data)], .bool (hdB Q.L)]) ∧
    RL w' B (.slice a (popA Q).L.length k) (popA Q).L ∧ Below w.heap.size w w' ∧ ∀ j, (Value.slice a (popA Q).L.length k).ownBlock = some j → v.ownBlock = some j

theorem rpop_all {w : World} {B : Nat} {v : Value} {Q : QS} (h : RL w B v Q.L) : Calls Try.prog 60 #[rq v Q] w (RPopA w B v Q) := by
  obtain ⟨a, c, ev⟩ := h.shape
  cases hL : Q.L with
  | nil =>
    refine (rpop_nil (h.raise (fun _ _ => Nat.zero_le _)) hL).mono ?_
    rintro e w' ⟨rfl, hB⟩
    have hR := h.below hB
    unfold RPopA popA
    rw [ev, hL] at hR ⊢
    unfold hdIt hdB rq
    rw [str8_nil]
    exact ⟨a, c, rfl, hR, hB, fun j hj => hj⟩
  | cons x L =>
    refine (rpop_is h hL).mono ?_
    rintro e w' ⟨v', rfl, hR, hB, hv⟩
    obtain ⟨a', c', ev'⟩ := hR.shape
    unfold RPopA popA
    rw [hL]
    rw [ev'] at hR hv ⊢
    exact ⟨a', c', rfl, hR, hB, fun j hj => by rw [← hv]; exact hj⟩
end Go.Proofs.Ythipfcmjpgbemaa
