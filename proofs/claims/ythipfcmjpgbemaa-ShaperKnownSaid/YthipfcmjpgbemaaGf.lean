/- A shaper as it lies in memory; the counters and the lines: walked. -/
import Derived.Test.YthipfcmjpgbemaaGe
import Derived.Test.YthipfcmjpgbemaaGb
import Derived.Laws.LoneSync
import Derived.Handy
namespace Go.Proofs.Ythipfcmjpgbemaa
open Go.RowKit

/-- A class's line: what is counted, its bucket, its queue. -/
structure Ln where
  off : Nat
  drp : Nat
  out : Nat
  byt : Nat
  B : Bk
  Q : QS
/-- A shaper: its tick, its lines. -/
structure Sh where
  tick : Nat
  ls : List Ln

/-- Nothing is great. -/
structure Ln.Ok (n : Nat) (L : Ln) : Prop where
  off : L.off ≤ n
  drp : L.drp ≤ n
  out : L.out + L.Q.L.length ≤ n
  byt : L.byt ≤ 2048 * L.out
  drops : L.Q.drops ≤ n
  size : ∀ x ∈ L.Q.L, x.size ≤ 2048
  B : L.B.Ok
structure Sh.Ok (n : Nat) (S : Sh) : Prop where
  ln : ∀ L ∈ S.ls, L.Ok n
  few : n ≤ 1000000
  tick : S.tick < 18446744073709551616
  len : S.ls.length ≤ 8

def ptr (p : Nat) : Value := .pointer (some ⟨p, 0, none⟩)
/-- A line's six cells. -/
def Ln.cells (L : Ln) (bp qp : Nat) : Array Value := #[.int .u64 L.off, .int .u64 L.drp, .int .u64 L.out, .int .u64 L.byt, ptr bp, ptr qp]

/-- A line in memory. Roles: 3 + 3c the line c itself, 4 + 3c its bucket, 5 + 3c its queue. -/
structure IsL (w : World) (O : Nat → Nat) (c lp bp qp : Nat) (r : Nat → Nat) (L : Ln) : Prop where
  blk : w.heap[lp]? = some (.cells (L.cells bp qp) 88 (0, 0))
  b : IsB w bp L.B
  q : Que w qp r L.Q
  ol : O lp = 3 + 3 * c
  ob : O bp = 4 + 3 * c
  oq : ∀ k, r k ≠ 0 → O k = 5 + 3 * c
/-- A shaper in memory. Roles: 1 the shaper itself, 2 the row of its lines. -/
structure IsS (w : World) (p : Nat) (O : Nat → Nat) (v : Value) (ps : List Nat) (S : Sh) : Prop where
  blk : w.heap[p]? = some (.cells #[.int .u64 S.tick, v] 73 (0, 0))
  row : w.ownsRow 0 77 1 v S.ls.length (ps.map ptr)
  len : ps.length = S.ls.length
  ln : ∀ c L lp, S.ls[c]? = some L → ps[c]? = some lp → ∃ bp qp r, IsL w O c lp bp qp r L
  op : O p = 1
  ov : ∀ k, v.ownBlock = some k → O k = 2
  lt : ∀ k, O k ≠ 0 → k < w.heap.size

theorem IsL.keep {w w' : World} {O : Nat → Nat} {c lp bp qp : Nat} {r : Nat → Nat} {L : Ln} (h : IsL w O c lp bp qp r L) {S : Nat → Prop} (hO : Only S w w') (h1 : ¬ S lp) (h2 : ¬ S bp) (h3 : ∀ k, r k ≠ 0 → ¬ S k) : IsL w' O c lp bp qp r L :=
  ⟨hO.keep h.blk h1, h.b.keep hO h2, h.q.keep hO h3, h.ol, h.ob, h.oq⟩
theorem IsL.roles {w : World} {O O' : Nat → Nat} {c lp bp qp : Nat} {r : Nat → Nat} {L : Ln} (h : IsL w O c lp bp qp r L) (hO : ∀ k, O k ≠ 0 → O' k = O k) : IsL w O' c lp bp qp r L :=
  ⟨h.blk, h.b, h.q, by rw [hO _ (by rw [h.ol]; omega)]; exact h.ol, by rw [hO _ (by rw [h.ob]; omega)]; exact h.ob, fun k hk => by rw [hO _ (by rw [h.oq k hk]; omega)]; exact h.oq k hk⟩
section
variable {w w' : World} {p : Nat} {O : Nat → Nat} {v : Value} {ps : List Nat} {S : Sh}
theorem IsS.keep (h : IsS w p O v ps S) {T : Nat → Prop} (hO : Only T w w') (hT : ∀ k, O k ≠ 0 → ¬ T k) : IsS w' p O v ps S :=
  ⟨hO.keep h.blk (hT p (by rw [h.op]; decide)), own_only h.row hO (fun k hk => hT k (by rw [h.ov k hk]; decide)), h.len, fun c L lp hc hl =>
    let ⟨bp, qp, r, hL⟩ := h.ln c L lp hc hl
    ⟨bp, qp, r, hL.keep hO (hT _ (by rw [hL.ol]; omega)) (hT _ (by rw [hL.ob]; omega)) (fun k hk => hT k (by rw [hL.oq k hk]; omega))⟩, h.op, h.ov, fun k hk => Nat.lt_of_lt_of_le (h.lt k hk) hO.size⟩
theorem IsS.below (h : IsS w p O v ps S) (hB : Below w.heap.size w w') : IsS w' p O v ps S := h.keep (Below.only hB (fun _ => False)) (fun _ _ h => h)
theorem IsS.zero (h : IsS w p O v ps S) {k : Nat} (hk : w.heap.size ≤ k) : O k = 0 := by
  rcases Nat.eq_zero_or_pos (O k) with e | e
  · exact e
  · have := h.lt k (by omega); omega
theorem IsS.c0 (h : IsS w p O v ps S) : w.cell? ⟨p, 0, none⟩ = some (.int .u64 S.tick) := cell_of_block h.blk 0
theorem IsS.c1 (h : IsS w p O v ps S) : w.cell? ⟨p, 1, none⟩ = some v := cell_of_block h.blk 1
end

/-! ### The counters -/
theorem add_cnt {w : World} {b o : Nat} {x y : Nat} (hc : w.cell? ⟨b, o, none⟩ = some (.int .u64 x)) (hz : w.frozen? ⟨b, o, none⟩ = false) (hs : x + y < 18446744073709551616) :
    Calls Try.prog 30 #[.pointer (some ⟨b, o, none⟩), .int .u64 y] w fun e w' => e = .returned (.int .u64 ((x + y : Nat) : Int)) ∧ w' = w.setCell ⟨b, o, none⟩ (.int .u64 ((x + y : Nat) : Int)) := by
  have hi : (Op.intArith .add .u64 (x : Int) (y : Int)).run Try.prog w = .ok (.int .u64 ((x + y : Nat) : Int)) w := by
    simp [go_sem]
    rw [IntWalk.u64_in _ (by omega)]
  have hl := run_call_add (P := Try.prog) Try.func50 (by kernel_rfl) (by kernel_rfl) (by kernel_rfl) .u64 (by kernel_rfl) hc hz hi
  go_enter Try.func30, Try.ntmps30
  go_wp2_with fail
  go_ret
  exact ⟨rfl, rfl⟩
theorem load_cnt {w : World} {b o : Nat} {x : Nat} (hc : w.cell? ⟨b, o, none⟩ = some (.int .u64 x)) :
    Calls Try.prog 44 #[.pointer (some ⟨b, o, none⟩)] w fun e w' => e = .returned (.int .u64 x) ∧ w' = w := by
  have hl := run_call_load (P := Try.prog) Try.func62 (by kernel_rfl) (by kernel_rfl) (by kernel_rfl) .u64 (by kernel_rfl) hc
  go_enter Try.func44, Try.ntmps44
  go_wp2_with fail
  go_ret
  exact ⟨rfl, rfl⟩

/-! ### The line of a class -/
theorem line_nil (c : Int) (w : World) :
    Calls Try.prog 28 #[.pointer none, .int .i64 c] w fun e w' => e = .returned (.pointer none) ∧ w' = w := by
  go_enter Try.func28, Try.ntmps28
  go_wp2_with fail
  go_ret
  exact ⟨rfl, rfl⟩
theorem row_ptr {w : World} {v : Value} {n : Nat} {ps : List Nat} (h : w.ownsRow 0 77 1 v n (ps.map ptr)) {c lp : Nat} (hc : ps[c]? = some lp) (hn : ps.length = n) :
    ∃ g cap, v = .slice (some ⟨g, 0, none⟩) n cap ∧ n ≤ cap ∧ w.cell? ⟨g, c, none⟩ = some (ptr lp) := by
  have hcl := (List.getElem?_eq_some_iff.1 hc).1
  rcases h.2 with ⟨_, h0⟩ | ⟨g, cap, cur, hv, _, hh, hnc, _, _, hx⟩
  · omega
  · refine ⟨g, cap, hv, hnc, ?_⟩
    rw [cell_of_block hh]
    have e : (List.take (n * 1) cur.toList)[c]? = (ps.map ptr)[c]? := by rw [hx]
    rw [List.getElem?_take_of_lt (by omega), List.getElem?_map, hc] at e
    simpa using e
/-- Where the line of a class lies. -/
def lineAt (ps : List Nat) (c : Int) : Value := if 0 ≤ c ∧ c < ps.length then ptr (ps.getD c.toNat 0) else .pointer none
theorem line_is {w : World} {p : Nat} {O : Nat → Nat} {v : Value} {ps : List Nat} {S : Sh} (h : IsS w p O v ps S) (c : Int) :
    Calls Try.prog 28 #[ptr p, .int .i64 c] w fun e w' => e = .returned (lineAt ps c) ∧ w' = w := by
  have c1 := h.c1
  have hl := h.len
  obtain ⟨va, vc, hv⟩ := own_shape h.row
  unfold lineAt ptr
  by_cases h0 : c < 0
  · rw [if_neg (by omega)]
    clear h
    go_enter Try.func28, Try.ntmps28
    go_wp2_with fail
    go_ret
    exact ⟨rfl, rfl⟩
  · by_cases h1 : c < ps.length
    · rw [if_pos ⟨by omega, h1⟩]
      obtain ⟨n, rfl⟩ := Int.eq_ofNat_of_zero_le (show 0 ≤ c by omega)
      obtain ⟨lp, hlp⟩ : ∃ lp, ps[n]? = some lp := ⟨_, List.getElem?_eq_getElem (by omega)⟩
      obtain ⟨g, cap, hv2, hnc, hcell⟩ := row_ptr h.row hlp hl
      have e : ps.getD n 0 = lp := by simp [List.getD_eq_getElem?_getD, hlp]
      have hlt : n < S.ls.length := by omega
      have hni : (n : Int) < (S.ls.length : Int) := by omega
      rw [hv2] at c1
      unfold ptr at hcell
      show Calls _ _ _ _ (fun e w' => e = .returned (.pointer (some ⟨ps.getD n 0, 0, none⟩)) ∧ w' = w)
      rw [e]
      generalize S.ls.length = N at *
      clear h hv hv2 e hlp h1 hl
      go_enter Try.func28, Try.ntmps28
      go_wp2_with fail
      go_ret
      exact ⟨rfl, rfl⟩
    · rw [if_neg (by omega)]
      rw [hv] at c1
      rw [hl] at h1
      generalize S.ls.length = N at *
      clear h hv hl
      go_enter Try.func28, Try.ntmps28
      go_wp2_with fail
      go_ret
      exact ⟨rfl, rfl⟩
end Go.Proofs.Ythipfcmjpgbemaa

/- The head that goes out next: walked. -/
namespace Go.Proofs.Ythipfcmjpgbemaa
open Go.RowKit

/-- What a search has found: when, of which class; whether at all. -/
structure Fnd where
  at' : Nat
  cls : Int
  ok : Bool
/-- The tick, from the shaper's on, at which a line's head is covered. -/
def lnWhen (tick : Nat) (L : Ln) : Nat × Bool :=
  match L.Q.L with
  | [] => (0, false)
  | x :: _ => (max (L.B.when x.size).1 tick, (L.B.when x.size).2)
def lookL (tick : Nat) (f : Fnd) (c : Nat) (L : Ln) : Fnd :=
  if (lnWhen tick L).2 = true ∧ (f.ok = false ∨ (lnWhen tick L).1 < f.at') then ⟨(lnWhen tick L).1, c, true⟩ else f
def nextL (tick : Nat) : Nat → Fnd → List Ln → Fnd
  | _, f, [] => f
  | c, f, L :: t => nextL tick (c + 1) (lookL tick f c L) t
def Sh.next (S : Sh) : Fnd := nextL S.tick 0 ⟨0, 0, false⟩ S.ls

/-- The search's four boxes. -/
structure Look (w : World) (bs ba bc bo p : Nat) (f : Fnd) : Prop where
  s : w.heap[bs]? = some (.cells #[ptr p] 26 (0, 0))
  a : w.heap[ba]? = some (.cells #[.int .u64 f.at'] 30 (0, 0))
  c : w.heap[bc]? = some (.cells #[.int .i64 f.cls] 3 (0, 0))
  o : w.heap[bo]? = some (.cells #[.bool f.ok] 4 (0, 0))
  ne : bs < ba ∧ ba < bc ∧ bc < bo
theorem Look.keep {w w' : World} {bs ba bc bo p : Nat} {f : Fnd} (h : Look w bs ba bc bo p f) {S : Nat → Prop} (hO : Only S w w') (hS : ∀ k, bs ≤ k → k ≤ bo → ¬ S k) : Look w' bs ba bc bo p f :=
  have hn := h.ne
  ⟨hO.keep h.s (hS _ (by omega) (by omega)), hO.keep h.a (hS _ (by omega) (by omega)), hO.keep h.c (hS _ (by omega) (by omega)), hO.keep h.o (hS _ (by omega) (by omega)), h.ne⟩
theorem Look.below {w w' : World} {bs ba bc bo p : Nat} {f : Fnd} (h : Look w bs ba bc bo p f) (hB : Below w.heap.size w w') : Look w' bs ba bc bo p f :=
  h.keep (Below.only hB (fun _ => False)) (fun _ _ _ h => h)

theorem when_lt {B : Bk} {n : Nat} (hB : B.Ok) : (B.when n).1 < 18446744073709551616 := by
  unfold Bk.when
  have := hB.tick
  split
  · exact this
  · split
    · decide
    · split
      · assumption
      · decide

/-- What is found is laid down. -/
theorem look_put {w w2 : World} {bs ba bc bo p : Nat} {f : Fnd} (hK : Look w2 bs ba bc bo p f) (hO : Only (fun k => k = ba ∨ k = bc ∨ k = bo) w w2) (m : Nat) (c : Int) (k : Bool) :
    Look (((w2.setCell ⟨ba, 0, none⟩ (.int .u64 m)).setCell ⟨bc, 0, none⟩ (.int .i64 c)).setCell ⟨bo, 0, none⟩ (.bool k)) bs ba bc bo p ⟨m, c, k⟩ ∧ Only (fun k => k = ba ∨ k = bc ∨ k = bo) w (((w2.setCell ⟨ba, 0, none⟩ (.int .u64 m)).setCell ⟨bc, 0, none⟩ (.int .i64 c)).setCell ⟨bo, 0, none⟩ (.bool k)) := by
  obtain ⟨n1, n2, n3⟩ := hK.ne
  refine ⟨⟨?_, ?_, ?_, ?_, ⟨n1, n2, n3⟩⟩, ((hO.setCell (fun _ => by dsimp only; omega) _).setCell (fun _ => by dsimp only; omega) _).setCell (fun _ => by dsimp only; omega) _⟩
  · rw [setCell_block_other _ _ (by omega), setCell_block_other _ _ (by omega), setCell_block_other _ _ (by omega)]
    exact hK.s
  · rw [setCell_block_other _ _ (by omega), setCell_block_other _ _ (by omega), setCell_block hK.a]
    rfl
  · rw [setCell_block_other _ _ (by omega)]
    exact setCell_block ((setCell_block_other _ _ (by omega)).trans hK.c) 0 _
  · exact setCell_block ((setCell_block_other _ _ (by omega)).trans ((setCell_block_other _ _ (by omega)).trans hK.o)) 0 _
theorem look_set {w w2 : World} {bs ba bc bo p : Nat} {f g : Fnd} (hK : Look w2 bs ba bc bo p f) (hO : Only (fun k => k = ba ∨ k = bc ∨ k = bo) w w2) (m : Nat) (c : Nat) (e : g = ⟨m, c, true⟩) :
    (∃ v, Ending.returned (.tuple #[]) = Ending.returned v) ∧ Look (((w2.setCell ⟨ba, 0, none⟩ (.int .u64 m)).setCell ⟨bc, 0, none⟩ (.int .i64 c)).setCell ⟨bo, 0, none⟩ (.bool true)) bs ba bc bo p g ∧ Only (fun k => k = ba ∨ k = bc ∨ k = bo) w (((w2.setCell ⟨ba, 0, none⟩ (.int .u64 m)).setCell ⟨bc, 0, none⟩ (.int .i64 c)).setCell ⟨bo, 0, none⟩ (.bool true)) := by
  subst e
  exact ⟨⟨_, rfl⟩, look_put hK hO m c true⟩

theorem look_is {w : World} {O : Nat → Nat} {c bs ba bc bo p lp bp qp tick : Nat} {r : Nat → Nat} {L : Ln} {f : Fnd} (hL : IsL w O c lp bp qp r L) (hB : L.B.Ok) (hs : ∀ x ∈ L.Q.L, x.size ≤ 2048) (hK : Look w bs ba bc bo p f) {v : Value} (ht : w.heap[p]? = some (.cells #[.int .u64 tick, v] 73 (0, 0))) (htl : tick < 18446744073709551616) :
    Calls Try.prog 51 #[.int .i64 c, ptr lp, .pointer (some ⟨bs, 0, none⟩), .pointer (some ⟨bo, 0, none⟩), .pointer (some ⟨ba, 0, none⟩), .pointer (some ⟨bc, 0, none⟩)] w fun e w' => (∃ v, e = .returned v) ∧ Look w' bs ba bc bo p (lookL tick f c L) ∧ Only (fun k => k = ba ∨ k = bc ∨ k = bo) w w' := by
  unfold ptr
  have c4 : w.cell? ⟨lp, 4, none⟩ = some (.pointer (some ⟨bp, 0, none⟩)) := cell_of_block hL.blk 4
  have c5 : w.cell? ⟨lp, 5, none⟩ = some (.pointer (some ⟨qp, 0, none⟩)) := cell_of_block hL.blk 5
  go_enter Try.func51, Try.ntmps51
  go_wp2_with fail
  cases hl : L.Q.L with
  | nil =>
    refine (head_q_nil hL.q hl).mono ?_
    rintro e w1 ⟨rfl, hB1⟩
    go_wp2_with fail
    go_returns
    refine ⟨⟨_, rfl⟩, ?_, ?_⟩
    · have e : lookL tick f c L = f := by simp [lookL, lnWhen, hl]
      rw [e]
      exact hK.below (hB1.alloc hB1.size _)
    · exact Below.only (hB1.alloc hB1.size _) _
  | cons x l =>
    refine (head_q hL.q hl).mono ?_
    rintro e w1 ⟨y, rfl, hy, hB1⟩
    obtain ⟨ya, yc, rfl⟩ := own_shape hy
    clear hy
    have hx : x.size ≤ 2048 := hs x (by rw [hl]; simp)
    have hw64 : IntKind.u64.wrap (x.size : Int) = x.size := IntWalk.u64_in _ (by omega)
    go_wp2_with fail
    have hB1 := hB1.alloc hB1.size (.cells #[.int .u64 x.no, .int .i64 x.size, .slice ya x.data.length yc] 34)
    have x1 : (w1.alloc (.cells #[.int .u64 x.no, .int .i64 x.size, .slice ya x.data.length yc] 34)).cell? ⟨w1.heap.size, 1, none⟩ = some (.int .i64 x.size) := cell_of_block (alloc_block_new _ _) 1
    have hbx : w1.heap.size < (w1.alloc (.cells #[.int .u64 x.no, .int .i64 x.size, .slice ya x.data.length yc] 34)).heap.size := by simp
    generalize w1.heap.size = bx at *
    generalize w1.alloc (.cells #[.int .u64 x.no, .int .i64 x.size, .slice ya x.data.length yc] 34) = w1 at *
    have hb1 := hL.b.keep (Below.only hB1 (fun _ => False)) (fun h => h)
    have hlp1 := (hB1.block _ (lt_of_obj hL.blk)).trans hL.blk
    have hK1 := hK.below hB1
    have ht1 := (hB1.block _ (lt_of_obj ht)).trans ht
    obtain ⟨a, ev, hw⟩ : ∃ a ev, L.B.when x.size = (a, ev) := ⟨_, _, rfl⟩
    have hal : a < 18446744073709551616 := by have := when_lt (n := x.size) hB; rw [hw] at this; exact this
    have hln : lnWhen tick L = (max a tick, ev) := by simp [lnWhen, hl, hw]
    have hO1 : Only (fun k => k = ba ∨ k = bc ∨ k = bo) w w1 := Below.only hB1 _
    have HWN := Lib.hid (show ∀ z : Wld (fun z => Below w1.heap.size w1 z), Calls Try.prog 53 #[.pointer (some ⟨bp, 0, none⟩), .int .u64 x.size] z.w fun e w' => e = .returned (.tuple #[.int .u64 a, .bool ev]) ∧ Below z.w.heap.size z.w w' from fun z =>
      (when_is bp x.size z.w (hb1.keep (Below.only z.ok (fun _ => False)) (fun h => h)) hB hw).mono fun e w' ⟨he, _, hO⟩ => ⟨he, hO.below (Nat.le_refl _) (fun _ _ h => h)⟩)
    have c4 : ∀ z : Wld (fun z => Below w1.heap.size w1 z), z.w.cell? ⟨lp, 4, none⟩ = some (.pointer (some ⟨bp, 0, none⟩)) := fun z => cell_of_block ((z.ok.block _ (lt_of_obj hlp1)).trans hlp1) 4
    have x0 : ∀ z : Wld (fun z => Below w1.heap.size w1 z), z.w.cell? ⟨bx, 1, none⟩ = some (.int .i64 x.size) := fun z => (z.ok.cell hbx).trans x1
    haveI hne : Nonempty (Wld (fun z => Below w1.heap.size w1 z)) := ⟨⟨w1, Below.refl _ _⟩⟩
    have HX := Lib.hid (And.intro hK1 ht1)
    have HO := Lib.hid hO1
    clear c5 hb1 hl hw hB x1 hK1 ht1 hlp1 hO1 hK hL hB1 ht
    refine region_class (fun z => Below w1.heap.size w1 z) (by kernel_rfl) (by kernel_rfl) (Below.refl _ _).drew ?_
    repeat (go_big_quiet_step ((rename_i z; go_at_call 53; exact (HWN.out z).mono fun e w' ⟨he, hb⟩ => ⟨he, ⟨w', z.ok.trans (hb.mono z.ok.size)⟩, rfl⟩)))
    refine wpQuiet_nil ?_
    intro w2 hB2
    clear HWN c4 x0 hne
    have hK2 : Look w2 bs ba bc bo p f := HX.out.1.below hB2
    have ht2 := (hB2.block _ (lt_of_obj HX.out.2)).trans HX.out.2
    have HO3 := Lib.hid (HO.out.trans (Below.only hB2 _))
    clear HX HO hB2
    have s0 : w2.cell? ⟨bs, 0, none⟩ = some (.pointer (some ⟨p, 0, none⟩)) := cell_of_block hK2.s 0
    have a0 : w2.cell? ⟨ba, 0, none⟩ = some (.int .u64 f.at') := cell_of_block hK2.a 0
    have o0 : w2.cell? ⟨bo, 0, none⟩ = some (.bool f.ok) := cell_of_block hK2.o 0
    have t0 : w2.cell? ⟨p, 0, none⟩ = some (.int .u64 tick) := cell_of_block ht2 0
    have fa : w2.frozen? ⟨ba, 0, none⟩ = false := free_of_block hK2.a 0
    have fc : w2.frozen? ⟨bc, 0, none⟩ = false := free_of_block hK2.c 0
    have fo : w2.frozen? ⟨bo, 0, none⟩ = false := free_of_block hK2.o 0
    have c0 : w2.cell? ⟨bc, 0, none⟩ = some (.int .i64 f.cls) := cell_of_block hK2.c 0
    have hne := hK2.ne
    have n1 : ba ≠ bc := by omega
    have n2 : bc ≠ ba := by omega
    have n3 : ba ≠ bo := by omega
    have n4 : bo ≠ ba := by omega
    have n5 : bc ≠ bo := by omega
    have n6 : bo ≠ bc := by omega
    clear hne
    have HK := Lib.hid hK2
    have HL := Lib.hid (And.intro hln ht2)
    clear hln ht2 hK2 hs
    have hln := HL.out.1
    clear HL hw64
    cases ev with
    | false =>
      go_wp2_with fail
      all_goals
        go_returns
        refine ⟨⟨_, rfl⟩, ?_, HO3.out⟩
        have e : lookL tick f c L = f := by simp [lookL, hln]
        rw [e]
        exact HK.out
    | true =>
      by_cases hm : a < tick
      · have hmx : max a tick = tick := by omega
        rw [hmx] at hln
        clear hmx
        cases hfo : f.ok with
        | false =>
          rw [hfo] at o0
          have e : lookL tick f c L = ⟨tick, c, true⟩ := by simp [lookL, hln, hfo]
          clear hln hfo
          go_wp2_with fail
          go_returns
          exact look_set HK.out HO3.out tick c e
        | true =>
          rw [hfo] at o0
          by_cases hq : tick < f.at'
          · have e : lookL tick f c L = ⟨tick, c, true⟩ := by simp [lookL, hln, hq]
            clear hln hfo
            go_wp2_with fail
            go_returns
            exact look_set HK.out HO3.out tick c e
          · have e : lookL tick f c L = f := by simp [lookL, hln, hfo, hq]
            clear hln hfo
            go_wp2_with fail
            go_returns
            exact ⟨⟨_, rfl⟩, by rw [e]; exact HK.out, HO3.out⟩
      · have hmx : max a tick = a := by omega
        rw [hmx] at hln
        clear hmx
        cases hfo : f.ok with
        | false =>
          rw [hfo] at o0
          have e : lookL tick f c L = ⟨a, c, true⟩ := by simp [lookL, hln, hfo]
          clear hln hfo
          go_wp2_with fail
          go_returns
          exact look_set HK.out HO3.out a c e
        | true =>
          rw [hfo] at o0
          by_cases hq : a < f.at'
          · have e : lookL tick f c L = ⟨a, c, true⟩ := by simp [lookL, hln, hq]
            clear hln hfo
            go_wp2_with fail
            go_returns
            exact look_set HK.out HO3.out a c e
          · have e : lookL tick f c L = f := by simp [lookL, hln, hfo, hq]
            clear hln hfo
            go_wp2_with fail
            go_returns
            exact ⟨⟨_, rfl⟩, by rw [e]; exact HK.out, HO3.out⟩
theorem nextL_snoc (tick : Nat) (L : Ln) : ∀ (l : List Ln) (k : Nat) (f : Fnd), nextL tick k f (l ++ [L]) = lookL tick (nextL tick k f l) (k + l.length) L
  | [], k, f => rfl
  | a :: l, k, f => by
    show nextL tick (k + 1) (lookL tick f k a) (l ++ [L]) = _
    rw [nextL_snoc tick L l]
    show _ = lookL tick (nextL tick (k + 1) (lookL tick f k a) l) _ L
    rw [show k + 1 + l.length = k + (a :: l).length by simp; omega]

theorem four_boxes (w : World) (c0 c1 c2 c3 : Array Value) (t0 t1 t2 t3 : TypeId) :
    Below w.heap.size w ((((w.alloc (.cells c0 t0)).alloc (.cells c1 t1)).alloc (.cells c2 t2)).alloc (.cells c3 t3)) ∧
    ((((w.alloc (.cells c0 t0)).alloc (.cells c1 t1)).alloc (.cells c2 t2)).alloc (.cells c3 t3)).heap[w.heap.size]? = some (.cells c0 t0 (0, 0)) ∧
    ((((w.alloc (.cells c0 t0)).alloc (.cells c1 t1)).alloc (.cells c2 t2)).alloc (.cells c3 t3)).heap[w.heap.size + 1]? = some (.cells c1 t1 (0, 0)) ∧
    ((((w.alloc (.cells c0 t0)).alloc (.cells c1 t1)).alloc (.cells c2 t2)).alloc (.cells c3 t3)).heap[w.heap.size + 1 + 1]? = some (.cells c2 t2 (0, 0)) ∧
    ((((w.alloc (.cells c0 t0)).alloc (.cells c1 t1)).alloc (.cells c2 t2)).alloc (.cells c3 t3)).heap[w.heap.size + 1 + 1 + 1]? = some (.cells c3 t3 (0, 0)) := by
  refine ⟨((((Below.refl _ _).alloc (Nat.le_refl _) _).alloc (by simp) _).alloc (by simp; omega) _).alloc (by simp; omega) _, ?_, ?_, ?_, ?_⟩
  · rw [alloc_block_old _ (by simp; omega), alloc_block_old _ (by simp; omega), alloc_block_old _ (by simp)]
    exact alloc_block_new _ _
  · rw [alloc_block_old _ (by simp), alloc_block_old _ (by simp)]
    exact alloc_block_at _ _ (by simp)
  · rw [alloc_block_old _ (by simp)]
    exact alloc_block_at _ _ (by simp)
  · exact alloc_block_at _ _ (by simp)

/-- Behind some lines. -/
def NxRel (W : World) (bs ba bc bo p : Nat) (S : Sh) (i : Value) (w : World) : Prop :=
  ∃ c : Nat, i = .int .i64 c ∧ c ≤ S.ls.length ∧ Below W.heap.size W w ∧ Look w bs ba bc bo p (nextL S.tick 0 ⟨0, 0, false⟩ (S.ls.take c))
set_option maxRecDepth 100000 in
theorem next_is {w : World} {p n : Nat} {O : Nat → Nat} {v : Value} {ps : List Nat} {S : Sh} (h : IsS w p O v ps S) (hS : S.Ok n) :
    Calls Try.prog 31 #[ptr p] w fun e w' => e = .returned (.tuple #[.int .u64 S.next.at', .int .i64 S.next.cls, .bool S.next.ok]) ∧ Below w.heap.size w w' := by
  unfold ptr
  obtain ⟨va, vc, rfl⟩ := own_shape h.row
  have hlen := hS.len
  have H := Lib.hid (And.intro h hS)
  clear hS
  go_enter Try.func31, Try.ntmps31
  go_upto_region 2 with (fail)
  obtain ⟨hB, g0, g1, g2, g3⟩ := four_boxes w #[.pointer (some ⟨p, 0, none⟩)] #[.int .u64 0] #[.int .i64 0] #[.bool false] 26 30 3 4
  generalize ((((w.alloc (Obj.cells #[.pointer (some ⟨p, 0, none⟩)] 26)).alloc (Obj.cells #[.int .u64 0] 30)).alloc (Obj.cells #[.int .i64 0] 3)).alloc (Obj.cells #[.bool false] 4)) = w1 at *
  obtain ⟨bo, hbo⟩ : ∃ bo, w.heap.size + 1 + 1 + 1 = bo := ⟨_, rfl⟩
  obtain ⟨bc, hbc⟩ : ∃ bc, w.heap.size + 1 + 1 = bc := ⟨_, rfl⟩
  obtain ⟨ba, hba⟩ : ∃ ba, w.heap.size + 1 = ba := ⟨_, rfl⟩
  obtain ⟨bs, hbs⟩ : ∃ bs, w.heap.size = bs := ⟨_, rfl⟩
  have hL0 : Look w1 bs ba bc bo p ⟨0, 0, false⟩ := by
    subst hbo hbc hba hbs
    exact ⟨g0, g1, g2, g3, by omega, by omega, by omega⟩
  rw [hbo, hbc, hba, hbs]
  have HB1 := Lib.hid hB
  have HZ : Hid (w.heap.size = bs) := hbs
  clear hbo hbc hba hbs g0 g1 g2 g3
  have h1 := h.below HB1.out
  have c1 := h1.c1
  have s0 : w1.cell? ⟨bs, 0, none⟩ = some (.pointer (some ⟨p, 0, none⟩)) := cell_of_block hL0.s 0
  have HL0 := Lib.hid hL0
  clear h h1 hL0 hB
  go_wp2_with fail
  go_loopw [14] (NxRel w bs ba bc bo p S) (fun i _ => S.ls.length - (intOf i).toNat)
  case atStart => exact ⟨0, rfl, Nat.zero_le _, HB1.out, HL0.out⟩
  case round =>
    obtain ⟨c, rfl, hc, hB, hL⟩ := hrel
    by_cases hlt : c < S.ls.length
    · have hS1 := H.out.1.below hB
      obtain ⟨L, hL1⟩ : ∃ L, S.ls[c]? = some L := ⟨_, List.getElem?_eq_getElem hlt⟩
      obtain ⟨lp, hlp⟩ : ∃ lp, ps[c]? = some lp := ⟨_, List.getElem?_eq_getElem (by rw [H.out.1.len]; exact hlt)⟩
      obtain ⟨bp, qp, r, hIL⟩ := hS1.ln c L lp hL1 hlp
      obtain ⟨g, cap, hv, hcap, hcell⟩ := row_ptr hS1.row hlp hS1.len
      injection hv with hva _ hvc
      subst hva
      subst hvc
      have hci : (c : Int) < (S.ls.length : Int) := by omega
      have hLo := H.out.2.ln L (List.mem_of_getElem? hL1)
      have HK := Lib.hid (look_is hIL hLo.B hLo.size hL hS1.blk H.out.2.tick)
      have HB := Lib.hid hB
      have HH := Lib.hid (And.intro hL1 hL)
      unfold ptr at hcell
      clear hB hL hS1 hL1 hlp hIL hLo
      go_wp2_with fail
      refine (HK.out).mono ?_
      rintro e w2 ⟨⟨ev, rfl⟩, hL2, hO2⟩
      have HM : Hid (NxRel w bs ba bc bo p S (.int .i64 (c + 1 : Nat)) w2) := by
        refine ⟨c + 1, rfl, hlt, HB.out.trans (hO2.below HB.out.size (fun k hk => ?_)), ?_⟩
        · have := HZ.out
          have := HH.out.2.ne
          omega
        · rw [List.take_add_one, HH.out.1, Option.toList_some, nextL_snoc, Nat.zero_add, List.length_take_of_le hc]
          exact hL2
      clear hL2 hO2
      go_wp2_with fail
      go_roundw
      case rel => exact HM.out
      case measure => simp [intOf]; omega
    · obtain rfl : c = S.ls.length := by omega
      rw [List.take_length] at hL
      have HB := Lib.hid hB
      have a0 : wr.cell? ⟨ba, 0, none⟩ = some (.int .u64 S.next.at') := cell_of_block hL.a 0
      have b0 : wr.cell? ⟨bc, 0, none⟩ = some (.int .i64 S.next.cls) := cell_of_block hL.c 0
      have o0 : wr.cell? ⟨bo, 0, none⟩ = some (.bool S.next.ok) := cell_of_block hL.o 0
      have fa : wr.frozen? ⟨ba, 0, none⟩ = false := free_of_block hL.a 0
      have fc : wr.frozen? ⟨bc, 0, none⟩ = false := free_of_block hL.c 0
      have fo : wr.frozen? ⟨bo, 0, none⟩ = false := free_of_block hL.o 0
      have hne := hL.ne
      have n1 : ba ≠ bc := by omega
      have n2 : bc ≠ ba := by omega
      have n3 : ba ≠ bo := by omega
      have n4 : bo ≠ ba := by omega
      have n5 : bc ≠ bo := by omega
      have n6 : bo ≠ bc := by omega
      have HL := Lib.hid hL
      clear hB hL
      go_wp2_with fail
      go_region
      obtain ⟨hL6, hO6⟩ := look_put HL.out (Only.refl _ _) S.next.at' S.next.cls S.next.ok
      generalize ((wr.setCell ⟨ba, 0, none⟩ (.int .u64 S.next.at')).setCell ⟨bc, 0, none⟩ (.int .i64 S.next.cls)).setCell ⟨bo, 0, none⟩ (.bool S.next.ok) = w6 at *
      have r0 : w6.cell? ⟨ba, 0, none⟩ = some (.int .u64 S.next.at') := cell_of_block hL6.a 0
      have r1 : w6.cell? ⟨bc, 0, none⟩ = some (.int .i64 S.next.cls) := cell_of_block hL6.c 0
      have r2 : w6.cell? ⟨bo, 0, none⟩ = some (.bool S.next.ok) := cell_of_block hL6.o 0
      clear a0 b0 o0 fa fc fo c1 s0
      go_wp2_with fail
      exact bodyPost_ret (v := .tuple #[.int .u64 S.next.at', .int .i64 S.next.cls, .bool S.next.ok]) (by simp [results, Try.results31, go_sem, r0, r1, r2]) rfl ⟨rfl, HB.out.trans (hO6.drew.below HB.out.size (fun k hk => by have := HZ.out; omega))⟩
end Go.Proofs.Ythipfcmjpgbemaa
