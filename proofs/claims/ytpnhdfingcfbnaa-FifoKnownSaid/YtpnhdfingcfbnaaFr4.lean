/- A queue is the document's: is, walked. -/
import Derived.Test.YtpnhdfingcfbnaaFr3
import Derived.Deep.CutBlock
import Derived.Deep.DeepCutAuto
import Derived.Deep.RegionWith
namespace Go.Proofs.Ytpnhdfingcfbnaa
open Go.RowKit

/-- All items, in new memory. -/
def AllOk (w : World) (L : List It) (e : Ending) (w' : World) : Prop := ∃ v ys F, e = .returned v ∧ NewI w.heap.size w' F v ys L ∧ Below w.heap.size w w'
theorem all_q {w : World} {p : Nat} {r : Nat → Nat} {Q : QS} (h : Que w p r Q) : Calls Try.prog 25 #[.pointer (some ⟨p, 0, none⟩)] w (AllOk w Q.L) := let ⟨_, _, _, _, h⟩ := h; all_items h
theorem head_q_nil {w : World} {p : Nat} {r : Nat → Nat} {Q : QS} (h : Que w p r Q) (h0 : Q.L = []) :
    Calls Try.prog 24 #[.pointer (some ⟨p, 0, none⟩)] w fun e w' => e = .returned (.tuple #[.agg #[.int .u64 0, .int .i64 0, .slice none 0 0], .bool false]) ∧ Below w.heap.size w w' := let ⟨_, _, _, _, h⟩ := h; head_empty h h0
theorem head_q {w : World} {p : Nat} {r : Nat → Nat} {Q : QS} (h : Que w p r Q) {x : It} {L : List It} (hL : Q.L = x :: L) :
    Calls Try.prog 24 #[.pointer (some ⟨p, 0, none⟩)] w (HeadOk w x) := let ⟨_, _, _, _, h⟩ := h; head_is h x L hL

/-- The first of some items, or none. -/
def hdIt : List It → It
  | [] => ⟨0, 0, []⟩
  | x :: _ => x
def hdB : List It → Bool
  | [] => false
  | _ :: _ => true
def HeadAny (w : World) (L : List It) (e : Ending) (w' : World) : Prop := ∃ a c, e = .returned (.tuple #[.agg #[.int .u64 (hdIt L).no, .int .i64 (hdIt L).size, .slice a (hdIt L).data.length c], .bool (hdB L)]) ∧ Holds8 w' (.slice a (hdIt L).data.length c) (hdIt L).data ∧ Below w.heap.size w w'
theorem head_any {w : World} {p : Nat} {r : Nat → Nat} {Q : QS} (h : Que w p r Q) : Calls Try.prog 24 #[.pointer (some ⟨p, 0, none⟩)] w (HeadAny w Q.L) := by
  cases hL : Q.L with
  | nil =>
    refine (head_q_nil h hL).mono ?_
    rintro e w' ⟨rfl, hB⟩
    exact ⟨none, 0, rfl, holds_nil _, hB⟩
  | cons x L =>
    refine (head_q h hL).mono ?_
    rintro e w' ⟨v, rfl, ho, hB⟩
    obtain ⟨a, c, rfl⟩ := own_shape ho
    exact ⟨a, c, rfl, ho.holds, hB⟩
theorem str8_nil : str8 [] = ⟨#[]⟩ := by simp [str8, strOfNums]
def RPopAny (w : World) (L : List It) (e : Ending) (w' : World) : Prop := ∃ a n c i b d, e = .returned (.tuple #[.agg #[.slice a n c, .int .i64 i, .int .i64 b, .int .u64 d], .agg #[.int .u64 (hdIt L).no, .int .i64 (hdIt L).size, .string (str8 (hdIt L).data)], .bool (hdB L)]) ∧ Below w.heap.size w w'
theorem rpop_any {w : World} {v : Value} {Q : QS} (h : RL w 0 v Q.L) : Calls Try.prog 12 #[rq v Q] w (RPopAny w Q.L) := by
  cases hL : Q.L with
  | nil =>
    obtain ⟨a, c, ev⟩ := h.shape
    refine (rpop_nil h hL).mono ?_
    rintro e w' ⟨rfl, hB⟩
    rw [ev]
    exact ⟨_, _, _, _, _, _, by rw [hL]; unfold hdIt; rw [str8_nil]; rfl, hB⟩
  | cons x L =>
    refine (rpop_is h hL).mono ?_
    rintro e w' ⟨v', rfl, hR, hB, _⟩
    obtain ⟨a, c, ev⟩ := hR.shape
    rw [ev]
    exact ⟨_, _, _, _, _, _, rfl, hB⟩

/-- Items in new memory, of which those from k on are as they came. -/
structure Mid (w0 : World) (F : Nat → Prop) (v : Value) (ys : List Value) (L : List It) (k : Nat) (w : World) : Prop where
  bel : Below w0.heap.size w0 w
  row : w.ownsRow w0.heap.size 37 3 v L.length ys
  cs : ∀ i x, k ≤ i → L[i]? = some x → ∃ y, ItAt w F ys (i * 3) x y
  ft : ∀ b, F b → w0.heap.size ≤ b ∧ ∃ c, w.heap[b]? = some (.cells c 5 (0, 0))

theorem Mid.below {w0 : World} {F : Nat → Prop} {v : Value} {ys : List Value} {L : List It} {k : Nat} {w w' : World} (h : Mid w0 F v ys L k w) (hB : Below w.heap.size w w') : Mid w0 F v ys L k w' :=
  have hO := Below.only hB (fun _ => False)
  ⟨h.bel.trans (hB.mono h.bel.size), own_only h.row hO (fun _ _ h => h), fun i x hi hx => let ⟨y, hy⟩ := h.cs i x hi hx; ⟨y, hy.keep hO (fun _ _ h => h)⟩, fun b hb => let ⟨h1, c, hc⟩ := h.ft b hb; ⟨h1, c, hO.keep hc (fun h => h)⟩⟩

theorem NewI.mid {base : Nat} {w0 w : World} {F : Nat → Prop} {v : Value} {ys : List Value} {L : List It} (h : NewI base w F v ys L) (hb : w0.heap.size ≤ base) (hB : Below w0.heap.size w0 w) : Mid w0 F v ys L 0 w :=
  ⟨hB, own_lower h.row hb, fun i x _ hx => h.cs i x hx, fun b hk => ⟨Nat.le_trans hb (h.ge b hk), h.ft b hk⟩⟩

/-- One item's bytes were written over. -/
theorem Mid.next {w0 : World} {F : Nat → Prop} {v y : Value} {ys : List Value} {L : List It} {k : Nat} {w w' : World} (h : Mid w0 F v ys L k w) (hk : k < L.length) (hy : ys[k * 3 + 2]? = some y) (hF : ∀ b, y.ownBlock = some b → F b)
    (dj : ∀ i j yi yj, i < j → j < L.length → ys[i * 3 + 2]? = some yi → ys[j * 3 + 2]? = some yj → ∀ k, yi.ownBlock = some k → ¬ yj.ownBlock = some k)
    (hO : Only (fun b => y.ownBlock = some b) w w') (hT : ∀ b, y.ownBlock = some b → ∃ c, w'.heap[b]? = some (.cells c 5 (0, 0))) : Mid w0 F v ys L (k + 1) w' := by
  have hvy : ∀ b, v.ownBlock = some b → ¬ y.ownBlock = some b := fun b hb hyb => by
    obtain ⟨c, hc⟩ := row_type h.row b hb
    obtain ⟨_, c', hc'⟩ := h.ft b (hF b hyb)
    rw [hc] at hc'
    injection hc' with hc'
    injection hc' with _ e _
    exact absurd e (by decide)
  refine ⟨h.bel.trans (hO.below h.bel.size (fun b hb e => by have := (h.ft b (hF b e)).1; omega)), own_only h.row hO hvy, fun i x hi hx => ?_, fun b hb => ⟨(h.ft b hb).1, ?_⟩⟩
  · obtain ⟨yi, hyi⟩ := h.cs i x (by omega) hx
    have hil := (List.getElem?_eq_some_iff.1 hx).1
    refine ⟨yi, hyi.c0, hyi.c1, hyi.c2, own_only hyi.d hO (fun b hb hyb => ?_), hyi.f⟩
    exact dj k i y yi (by omega) hil hy hyi.c2 b hyb hb
  · by_cases e : y.ownBlock = some b
    · exact hT b e
    · obtain ⟨_, c, hc⟩ := h.ft b hb
      exact ⟨c, hO.keep hc e⟩

/-- Bytes that are written over, up to one. -/
def KRel (wi : World) (y : Value) (n : Nat) (j : Value) (wr : World) : Prop :=
  ∃ m : Nat, j = .int .i64 m ∧ m ≤ n ∧ Only (fun b => y.ownBlock = some b) wi wr ∧ ∀ b, y.ownBlock = some b → ∃ c, wr.heap[b]? = some (.cells c 5 (0, 0)) ∧ ∀ i, i < n → ∃ z : Int, c[i]? = some (.int .u8 z)

theorem krel_start {wi : World} {base : Nat} {y : Value} {zs : List Nat} (h : Own8 wi base y zs) : KRel wi y zs.length (.int .i64 (0 : Nat)) wi := by
  refine ⟨0, rfl, Nat.zero_le _, Only.refl _ _, fun b hb => ?_⟩
  rcases h.2 with ⟨hv, h0⟩ | ⟨g, cap, cur, hv, hg, hh, hnc, hcm, hcs, hx⟩
  · rw [hv] at hb; cases hb
  · rw [hv] at hb
    injection hb with hb
    subst hb
    refine ⟨cur, hh, fun i hi => ⟨(zs.getD i 0 : Nat), ?_⟩⟩
    have e := u8s_get zs i hi
    rw [← hx] at e
    simpa [hi] using e
theorem krel_step {wi wr : World} {g n m : Nat} {cap : Nat} (h : KRel wi (.slice (some ⟨g, 0, none⟩) n cap) n (.int .i64 (m : Nat)) wr) (hm : m < n) (z : Int) :
    KRel wi (.slice (some ⟨g, 0, none⟩) n cap) n (.int .i64 (m + 1 : Nat)) (wr.setCell ⟨g, m, none⟩ (.int .u8 z)) := by
  obtain ⟨m', _, _, hO, hb⟩ := h
  refine ⟨m + 1, rfl, hm, hO.setCell (p := ⟨g, m, none⟩) (fun _ => rfl) _, fun b hbb => ?_⟩
  obtain rfl : g = b := by injection hbb
  obtain ⟨c, hc, hcc⟩ := hb g rfl
  refine ⟨_, setCell_block hc _ _, fun i hi => ?_⟩
  by_cases e : m = i
  · subst e
    obtain ⟨z', hz'⟩ := hcc m hi
    exact ⟨z, by rw [Array.getElem?_setIfInBounds_self_of_lt (Array.getElem?_eq_some_iff.1 hz').1]⟩
  · rw [Array.getElem?_setIfInBounds_ne e]
    exact hcc i hi

/-- At the head of a round over the items. -/
def IRel (w0 : World) (F : Nat → Prop) (v : Value) (ys : List Value) (L : List It) (i : Value) (wr : World) : Prop := ∃ k : Nat, i = .int .i64 k ∧ k ≤ L.length ∧ Mid w0 F v ys L k wr
/-- At the head of a round over the two turns. -/
def TRel (w0 : World) (t : Value) (wr : World) : Prop := ∃ k : Nat, t = .int .i64 k ∧ k ≤ 2 ∧ Below w0.heap.size w0 wr

set_option maxRecDepth 100000 in
set_option maxHeartbeats 2000000 in
theorem is_any {w : World} {p : Nat} {r : Nat → Nat} {Q : QS} {v : Value} (hQ : Que w p r Q) (hR : RL w 0 v Q.L) (hl : Q.L.length ≤ 65536) (hsum : sumQ Q.L ≤ 9223372036854775807) :
    Calls Try.prog 20 #[.pointer (some ⟨p, 0, none⟩), rq v Q] w fun e w' => e = .returned (.bool true) ∧ Below w.heap.size w w' := by
  obtain ⟨ao, c, rfl⟩ := hR.shape
  have hB1 : Below w.heap.size w (w.alloc (.cells #[.slice ao Q.L.length c, .int .i64 Q.items, .int .i64 Q.bound, .int .u64 Q.drops] 32)) := (Below.refl _ _).alloc (Nat.le_refl _) _
  have hG := alloc_block_new w (.cells #[.slice ao Q.L.length c, .int .i64 Q.items, .int .i64 Q.bound, .int .u64 Q.drops] 32)
  have hQ1 := hQ.below hB1
  have hR1 := hR.below hB1
  unfold rq
  have HB1 := Lib.hid hB1
  have HG := Lib.hid hG
  have HQ1 := Lib.hid hQ1
  have HR1 := Lib.hid hR1
  have HSUM := Lib.hid hsum
  clear hQ hR hB1 hG hQ1 hR1 hsum
  go_enter Try.func20, Try.ntmps20
  go_wp2_with fail
  generalize (w.alloc (.cells #[.slice ao Q.L.length c, .int .i64 Q.items, .int .i64 Q.bound, .int .u64 Q.drops] 32)) = w1 at *
  obtain ⟨g, eg⟩ : ∃ t, w.heap.size = t := ⟨_, rfl⟩
  rw [show (some (⟨w.heap.size, 0, none⟩ : Addr)) = some ⟨g, 0, none⟩ by rw [eg]]
  rw [eg] at HG
  clear eg
  go_loopw [5] (TRel w1) (fun t _ => 2 - (intOf t).toNat)
  case atStart => exact ⟨0, rfl, Nat.zero_le _, Below.refl _ _⟩
  case round =>
    obtain ⟨t, rfl, ht, hBt⟩ := hrel
    by_cases ht2 : t < 2
    · have HBT := Lib.hid hBt
      clear hBt
      go_wp2_with fail
      refine (all_q (HQ1.out.below HBT.out)).mono ?_
      rintro e w2 ⟨lv, ys, F, rfl, hN, hB2⟩
      obtain ⟨la, lc, rfl⟩ := own_shape hN.row
      have hB12 := HBT.out.trans (hB2.mono HBT.out.size)
      have HN := Lib.hid hN
      have HB12 := Lib.hid hB12
      have HQ2 : Hid (∀ x : Wld (fun x => Below w2.heap.size w2 x), Que x.w p r Q) := fun x => (HQ1.out.below HB12.out).below x.ok
      have HS2 : Hid (∀ x : Wld (fun x => Below w2.heap.size w2 x), Calls Try.prog 27 #[.agg #[.slice ao Q.L.length c, .int .i64 Q.items, .int .i64 Q.bound, .int .u64 Q.drops]] x.w fun e w' => e = .returned (.int .i64 (sumQ Q.L)) ∧ Below x.w.heap.size x.w w') := fun x => rsize_is ((HR1.out.below HB12.out).below x.ok) HSUM.out hl _ _ _
      have cl : ∀ (x : Wld (fun x => Below w2.heap.size w2 x)) (i : Nat), x.w.cell? ⟨g, i, none⟩ = (#[.slice ao Q.L.length c, .int .i64 Q.items, .int .i64 Q.bound, .int .u64 Q.drops] : Array Value)[i]? := fun x i => cell_of_block ((x.ok.block g (Nat.lt_of_lt_of_le (lt_of_obj HG.out) HB12.out.size)).trans ((HB12.out.block g (lt_of_obj HG.out)).trans HG.out)) i
      have c0 : ∀ x : Wld (fun x => Below w2.heap.size w2 x), x.w.cell? ⟨g, 0, none⟩ = some (.slice ao Q.L.length c) := fun x => cl x 0
      have c1 : ∀ x : Wld (fun x => Below w2.heap.size w2 x), x.w.cell? ⟨g, 1, none⟩ = some (.int .i64 Q.items) := fun x => cl x 1
      have c2 : ∀ x : Wld (fun x => Below w2.heap.size w2 x), x.w.cell? ⟨g, 2, none⟩ = some (.int .i64 Q.bound) := fun x => cl x 2
      have c3 : ∀ x : Wld (fun x => Below w2.heap.size w2 x), x.w.cell? ⟨g, 3, none⟩ = some (.int .u64 Q.drops) := fun x => cl x 3
      haveI hne : Nonempty (Wld (fun x => Below w2.heap.size w2 x)) := ⟨⟨w2, Below.refl _ _⟩⟩
      have hbs : w1.heap.size ≤ wr.heap.size := HBT.out.size
      clear cl hN hB2 hB12 HBT
      go_wp2_with fail
      refine region_class (fun x => Below w2.heap.size w2 x) (by kernel_rfl) (by kernel_rfl) (Below.refl _ _).drew ?_
      repeat (go_big_quiet_step ((rename_i x; first
        | (go_at_call 27; exact (HS2.out x).mono fun e w' ⟨he, hb⟩ => ⟨he, ⟨w', x.ok.trans (hb.mono x.ok.size)⟩, rfl⟩)
        | (go_at_call 21; exact (len_q (HQ2.out x)).mono fun e w' ⟨he, hw⟩ => ⟨he, x, hw⟩)
        | (go_at_call 22; exact (size_q (HQ2.out x)).mono fun e w' ⟨he, hw⟩ => ⟨he, x, hw⟩)
        | (go_at_call 23; exact (drops_q (HQ2.out x)).mono fun e w' ⟨he, hw⟩ => ⟨he, x, hw⟩))))
      refine wpQuiet_nil ?_
      intro w3 hB3
      have hN3 := HN.out.below hB3
      have hB13 := HB12.out.trans (hB3.mono HB12.out.size)
      have HDJ := Lib.hid HN.out.dj
      have hM3 := hN3.mid hbs hB13
      have HM3 := Lib.hid hM3
      have HB13 := Lib.hid hB13
      obtain ⟨wo, rfl⟩ : ∃ wo : World, wo = wr := ⟨_, rfl⟩
      clear c0 c1 c2 c3 hne hB3 hN3 hB13 hM3 HN HQ2 HS2 HB12 hbs
      go_wp2_with fail
      go_loopw [7] (IRel w1 F (.slice la Q.L.length lc) ys Q.L) (fun i _ => Q.L.length - (intOf i).toNat)
      case atStart => exact ⟨0, rfl, Nat.zero_le _, HM3.out⟩
      case round =>
        clear HM3
        obtain ⟨k, rfl, hk, hM⟩ := hrel
        by_cases hlt : k < Q.L.length
        · obtain ⟨x, hx⟩ : ∃ x, Q.L[k]? = some x := ⟨_, List.getElem?_eq_getElem hlt⟩
          obtain ⟨y, hy⟩ := hM.cs k x (Nat.le_refl _) hx
          obtain ⟨lg, cap, elv, hlg, hnc, hcell⟩ := row_cell hM.row (by omega)
          injection elv with ela _ elc
          subst ela elc
          obtain ⟨rg, ro, rfl, q0, q1, q2⟩ := (HR1.out.below hM.bel).at hx
          obtain ⟨ya, yc, ey⟩ := own_shape hy.d
          have k0 := (hcell (k * 3) (by omega)).trans hy.c0
          have k1 := (hcell (k * 3 + 1) (by omega)).trans hy.c1
          have k2 := (hcell (k * 3 + 2) (by omega)).trans hy.c2
          have hg := (hM.bel.block g (lt_of_obj HG.out)).trans HG.out
          have hglt := lt_of_obj hg
          rw [ey] at k2
          have hyh := hy.d.holds
          rw [ey] at hyh
          have HYH := Lib.hid hyh
          have HM := Lib.hid hM
          have HX := Lib.hid hx
          have HY := Lib.hid hy
          have HEY := Lib.hid ey
          have j0 : (0 : Int) ≤ (k : Int) := by omega
          have j1 : (k : Int) < (Q.L.length : Int) := by omega
          have cl : ∀ (x : Wld (fun x => Below wr.heap.size wr x)) (b i : Nat), b < wr.heap.size → x.w.cell? ⟨b, i, none⟩ = wr.cell? ⟨b, i, none⟩ := fun x b i hb => x.ok.cell (p := ⟨b, i, none⟩) hb
          have hrg := World.block_lt_of_cell? wr _ q0
          have b0 : ∀ z : Wld (fun x => Below wr.heap.size wr x), z.w.cell? ⟨lg, k * 3, none⟩ = some (.int .u64 x.no) := fun z => (cl z _ _ hlg).trans k0
          have b1 : ∀ z : Wld (fun x => Below wr.heap.size wr x), z.w.cell? ⟨lg, k * 3 + 1, none⟩ = some (.int .i64 x.size) := fun z => (cl z _ _ hlg).trans k1
          have b2 : ∀ z : Wld (fun x => Below wr.heap.size wr x), z.w.cell? ⟨lg, k * 3 + 2, none⟩ = some (.slice ya x.data.length yc) := fun z => (cl z _ _ hlg).trans k2
          have b3 : ∀ z : Wld (fun x => Below wr.heap.size wr x), z.w.cell? ⟨rg, ro + k * 3, none⟩ = some (.int .u64 x.no) := fun z => (cl z _ _ hrg).trans q0
          have b4 : ∀ z : Wld (fun x => Below wr.heap.size wr x), z.w.cell? ⟨rg, ro + k * 3 + 1, none⟩ = some (.int .i64 x.size) := fun z => (cl z _ _ hrg).trans q1
          have b5 : ∀ z : Wld (fun x => Below wr.heap.size wr x), z.w.cell? ⟨rg, ro + k * 3 + 2, none⟩ = some (.string (str8 x.data)) := fun z => (cl z _ _ hrg).trans q2
          have b6 : ∀ z : Wld (fun x => Below wr.heap.size wr x), z.w.cell? ⟨g, 0, none⟩ = some (.slice (some ⟨rg, ro, none⟩) Q.L.length c) := fun z => (cl z _ _ hglt).trans (cell_of_block hg 0)
          have HIT : Hid (∀ z : Wld (fun x => Below wr.heap.size wr x), Calls Try.prog 14 #[.agg #[.int .u64 x.no, .int .i64 x.size, .slice ya x.data.length yc]] z.w fun e w' => e = .returned (.agg #[.int .u64 x.no, .int .i64 x.size, .string (str8 x.data)]) ∧ Below z.w.heap.size z.w w') := fun z => item_is _ _ _ _ _ (HYH.out.below z.ok)
          haveI hne : Nonempty (Wld (fun x => Below wr.heap.size wr x)) := ⟨⟨wr, Below.refl _ _⟩⟩
          clear hM hx hy ey hcell hyh hg q0 q1 q2 cl k0 k1 k2
          go_wp2_with fail
          refine region_class (fun x => Below wr.heap.size wr x) (by kernel_rfl) (by kernel_rfl) (Below.refl _ _).drew ?_
          repeat (go_big_quiet_step ((rename_i z; go_at_call 14; exact (HIT.out z).mono fun e w' ⟨he, hb⟩ => ⟨he, ⟨w', z.ok.trans (hb.mono z.ok.size)⟩, rfl⟩)))
          refine wpQuiet_nil ?_
          intro w4 hB4
          have hM4 := HM.out.below hB4
          obtain ⟨y', hy'⟩ := hM4.cs k x (Nat.le_refl _) HX.out
          have ey' : y' = .slice ya x.data.length yc := by
            have e := hy'.c2
            rw [HY.out.c2, HEY.out] at e
            injection e with e
            exact e.symm
          subst ey'
          have k2 : w4.cell? ⟨lg, k * 3 + 2, none⟩ = some (.slice ya x.data.length yc) := b2 ⟨w4, hB4⟩
          have hlg4 : lg < w4.heap.size := Nat.lt_of_lt_of_le hlg hB4.size
          have hlgF : ∀ b, (Value.slice ya x.data.length yc).ownBlock = some b → b ≠ lg := fun b hb e => by
            subst e
            obtain ⟨c1, hc1⟩ := row_type hM4.row b rfl
            obtain ⟨_, c2, hc2⟩ := hM4.ft b (hy'.f b hb)
            rw [hc1] at hc2
            injection hc2 with hc2
            injection hc2 with _ e _
            exact absurd e (by decide)
          have HM4 := Lib.hid hM4
          have HY4 := Lib.hid hy'
          have HK2 := Lib.hid k2
          have HLGF := Lib.hid hlgF
          have hxd : x.data.length ≤ 9223372036854775807 := by
            have := hy'.d.1
            rcases hy'.d.2 with ⟨_, h0⟩ | ⟨g', cap', cur', _, _, _, hn', hm', _⟩
            · omega
            · unfold maxLen at hm'; omega
          obtain ⟨wi, rfl⟩ : ∃ wi : World, wi = wr := ⟨_, rfl⟩
          clear b0 b1 b2 b3 b4 b5 b6 hne hB4 hM4 hy' k2 HIT HYH HM HY HEY hlgF hlg
          go_wp2_with fail
          go_loopw [8] (KRel w4 (.slice ya x.data.length yc) x.data.length) (fun j _ => x.data.length - (intOf j).toNat)
          case atStart => exact krel_start HY4.out.d
          case round =>
            obtain ⟨m, rfl, hm, hO, hb⟩ := hrel
            have k2 : wr.cell? ⟨lg, k * 3 + 2, none⟩ = some (.slice ya x.data.length yc) := (World.cell?_of_block (w := w4) (hO.block lg hlg4 (fun e => HLGF.out lg e rfl))).trans HK2.out
            by_cases hmn : m < x.data.length
            · obtain ⟨yg, ycap, eyv, _⟩ := own_slice HY4.out.d (by omega)
              injection eyv with eya _ _
              subst eya
              obtain ⟨cy, hcy, hz⟩ := hb yg rfl
              obtain ⟨z, hzm⟩ := hz m hmn
              have y0 : wr.cell? ⟨yg, m, none⟩ = some (.int .u8 z) := (cell_of_block hcy m).trans hzm
              have y1 : wr.frozen? ⟨yg, m, none⟩ = false := free_of_block hcy m
              have HREL : Hid (KRel w4 (.slice (some ⟨yg, 0, none⟩) x.data.length yc) x.data.length (.int .i64 (m : Nat)) wr) := ⟨m, rfl, hm, hO, hb⟩
              clear hO hb hcy hz hzm
              go_wp2_with fail
              go_roundw
              case rel => exact krel_step HREL.out hmn _
              case measure => simp [intOf]; omega
            · have hMn := HM4.out.next hlt HY4.out.c2 (fun b hb => HY4.out.f b hb) HDJ.out hO (fun b hbb => let ⟨c, hc, _⟩ := hb b hbb; ⟨c, hc⟩)
              have HMN := Lib.hid hMn
              clear hO hb hMn
              go_wp2_with fail
              go_roundw
              case rel => exact ⟨k + 1, by go_num, by omega, HMN.out⟩
              case measure => simp [intOf]; omega
        · have HBE := Lib.hid hM.bel
          clear hM
          go_wp2_with fail
          go_roundw
          case rel => exact ⟨t + 1, by go_num, by omega, HBE.out⟩
          case measure => simp [intOf]; omega
    · have hQt := HQ1.out.below hBt
      have hRt := HR1.out.below hBt
      have hgt := (hBt.block g (lt_of_obj HG.out)).trans HG.out
      have h0 : wr.cell? ⟨g, 0, none⟩ = _ := cell_of_block hgt 0
      have h1 : wr.cell? ⟨g, 1, none⟩ = _ := cell_of_block hgt 1
      have h2 : wr.cell? ⟨g, 2, none⟩ = _ := cell_of_block hgt 2
      have h3 : wr.cell? ⟨g, 3, none⟩ = _ := cell_of_block hgt 3
      dsimp at h0 h1 h2 h3
      have HBT := Lib.hid (HB1.out.trans (hBt.mono HB1.out.size))
      have HH := Lib.hid (head_any hQt)
      have HRT := Lib.hid hRt
      have HGT := Lib.hid hgt
      clear hQt hRt hgt hBt
      go_wp2_with fail
      refine HH.out.mono ?_
      rintro e w2 ⟨xa, xc, rfl, hy2, hB2⟩
      have hB3 : Below wr.heap.size wr (w2.alloc (.cells #[.int .u64 (hdIt Q.L).no, .int .i64 (hdIt Q.L).size, .slice xa (hdIt Q.L).data.length xc] 37)) := hB2.trans (((Below.refl w2.heap.size w2).alloc (Nat.le_refl _) _).mono hB2.size)
      have hp3 := rpop_any (HRT.out.below hB3)
      have hg3 := (hB3.block g (lt_of_obj HGT.out)).trans HGT.out
      have hz3 := alloc_block_new w2 (.cells #[.int .u64 (hdIt Q.L).no, .int .i64 (hdIt Q.L).size, .slice xa (hdIt Q.L).data.length xc] 37)
      have hy3 : Holds8 (w2.alloc (.cells #[.int .u64 (hdIt Q.L).no, .int .i64 (hdIt Q.L).size, .slice xa (hdIt Q.L).data.length xc] 37)) _ _ := hy2.below ((Below.refl _ _).alloc (Nat.le_refl _) _)
      unfold RPopAny rq at hp3
      generalize hdIt Q.L = x at *
      generalize hdB Q.L = bb at *
      clear hB2 hy2 h0 h1 h2 h3
      have k0 : (w2.alloc (.cells #[.int .u64 x.no, .int .i64 x.size, .slice xa x.data.length xc] 37)).cell? ⟨g, 0, none⟩ = _ := cell_of_block hg3 0
      have k1 : (w2.alloc (.cells #[.int .u64 x.no, .int .i64 x.size, .slice xa x.data.length xc] 37)).cell? ⟨g, 1, none⟩ = _ := cell_of_block hg3 1
      have k2 : (w2.alloc (.cells #[.int .u64 x.no, .int .i64 x.size, .slice xa x.data.length xc] 37)).cell? ⟨g, 2, none⟩ = _ := cell_of_block hg3 2
      have k3 : (w2.alloc (.cells #[.int .u64 x.no, .int .i64 x.size, .slice xa x.data.length xc] 37)).cell? ⟨g, 3, none⟩ = _ := cell_of_block hg3 3
      dsimp at k0 k1 k2 k3
      have HP3 := Lib.hid hp3
      have HB3 := Lib.hid (HBT.out.trans (hB3.mono HBT.out.size))
      have HZ3 := Lib.hid hz3
      have HY3 := Lib.hid hy3
      clear hp3 hg3 hB3 hz3 hy3 HBT HRT HGT HH
      go_wp2_with fail
      have hlt3 := lt_of_obj HZ3.out
      have hz3 := HZ3.out
      obtain ⟨q, eq⟩ : ∃ t, w2.heap.size = t := ⟨_, rfl⟩
      rw [show (some (⟨w2.heap.size, 0, none⟩ : Addr)) = some ⟨q, 0, none⟩ by rw [eq]]
      rw [eq] at hlt3 hz3
      have HZ4 := Lib.hid hz3
      clear eq HZ3 hz3 k0 k1 k2 k3
      generalize w2.alloc (.cells #[.int .u64 x.no, .int .i64 x.size, .slice xa x.data.length xc] 37) = w3 at *
      refine HP3.out.mono ?_
      rintro e w4 ⟨a4, n4, c4, i4, b4, d4, rfl, hB4⟩
      clear HP3
      go_wp2_with fail
      have hB5 : Below w3.heap.size w3 ((w4.alloc (.cells #[.slice a4 n4 c4, .int .i64 i4, .int .i64 b4, .int .u64 d4] 32)).alloc (.cells #[.int .u64 x.no, .int .i64 x.size, .string (str8 x.data)] 42)) := hB4.trans ((((Below.refl w4.heap.size w4).alloc (Nat.le_refl _) _).alloc (by simp) _).mono hB4.size)
      have hz5 : ((w4.alloc (.cells #[.slice a4 n4 c4, .int .i64 i4, .int .i64 b4, .int .u64 d4] 32)).alloc (.cells #[.int .u64 x.no, .int .i64 x.size, .string (str8 x.data)] 42)).heap[w4.heap.size + 1]? = some (.cells #[.int .u64 x.no, .int .i64 x.size, .string (str8 x.data)] 42 (0, 0)) := alloc_block_at _ _ (by simp)
      generalize (w4.alloc (.cells #[.slice a4 n4 c4, .int .i64 i4, .int .i64 b4, .int .u64 d4] 32)).alloc (.cells #[.int .u64 x.no, .int .i64 x.size, .string (str8 x.data)] 42) = w5 at *
      have hq5 := (hB5.block q hlt3).trans HZ4.out
      have hy5 := HY3.out.below hB5
      have HB5 := Lib.hid (HB3.out.trans (hB5.mono HB3.out.size))
      generalize w4.heap.size + 1 = q4 at *
      have cl : ∀ (x : Wld (fun x => Below w5.heap.size w5 x)) (b i : Nat), b < w5.heap.size → x.w.cell? ⟨b, i, none⟩ = w5.cell? ⟨b, i, none⟩ := fun x b i hb => x.ok.cell (p := ⟨b, i, none⟩) hb
      have hqlt := lt_of_obj hq5
      have hzlt := lt_of_obj hz5
      have b0 : ∀ z : Wld (fun x => Below w5.heap.size w5 x), z.w.cell? ⟨q, 0, none⟩ = some (.int .u64 x.no) := fun z => (cl z _ _ hqlt).trans (cell_of_block hq5 0)
      have b1 : ∀ z : Wld (fun x => Below w5.heap.size w5 x), z.w.cell? ⟨q, 1, none⟩ = some (.int .i64 x.size) := fun z => (cl z _ _ hqlt).trans (cell_of_block hq5 1)
      have b2 : ∀ z : Wld (fun x => Below w5.heap.size w5 x), z.w.cell? ⟨q, 2, none⟩ = some (.slice xa x.data.length xc) := fun z => (cl z _ _ hqlt).trans (cell_of_block hq5 2)
      have b3 : ∀ z : Wld (fun x => Below w5.heap.size w5 x), z.w.cell? ⟨q4, 0, none⟩ = some (.int .u64 x.no) := fun z => (cl z _ _ hzlt).trans (cell_of_block hz5 0)
      have b4' : ∀ z : Wld (fun x => Below w5.heap.size w5 x), z.w.cell? ⟨q4, 1, none⟩ = some (.int .i64 x.size) := fun z => (cl z _ _ hzlt).trans (cell_of_block hz5 1)
      have b5 : ∀ z : Wld (fun x => Below w5.heap.size w5 x), z.w.cell? ⟨q4, 2, none⟩ = some (.string (str8 x.data)) := fun z => (cl z _ _ hzlt).trans (cell_of_block hz5 2)
      have HIT : Hid (∀ z : Wld (fun x => Below w5.heap.size w5 x), Calls Try.prog 14 #[.agg #[.int .u64 x.no, .int .i64 x.size, .slice xa x.data.length xc]] z.w fun e w' => e = .returned (.agg #[.int .u64 x.no, .int .i64 x.size, .string (str8 x.data)]) ∧ Below z.w.heap.size z.w w') := fun z => item_is _ _ _ _ _ (hy5.below z.ok)
      haveI hne : Nonempty (Wld (fun x => Below w5.heap.size w5 x)) := ⟨⟨w5, Below.refl _ _⟩⟩
      clear cl hq5 hy5 hz5 hB5 hB4 HY3 HZ4
      refine region_class (fun x => Below w5.heap.size w5 x) (by kernel_rfl) (by kernel_rfl) (Below.refl _ _).drew ?_
      repeat (go_big_quiet_step ((rename_i z; go_at_call 14; exact (HIT.out z).mono fun e w' ⟨he, hb⟩ => ⟨he, ⟨w', z.ok.trans (hb.mono z.ok.size)⟩, rfl⟩)))
      refine wpQuiet_nil ?_
      intro w6 hB6
      go_wp2_with fail
      go_ret
      exact ⟨rfl, HB5.out.trans (hB6.mono HB5.out.size)⟩
end Go.Proofs.Ytpnhdfingcfbnaa
