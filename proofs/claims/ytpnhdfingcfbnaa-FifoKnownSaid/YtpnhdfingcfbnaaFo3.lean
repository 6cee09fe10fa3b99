/- FifoOrder, walked. -/
import Derived.Test.YtpnhdfingcfbnaaFo2
import Derived.Deep.DeepCutAuto
import Derived.Deep.RegionWith
import Derived.Deep.CutBlock
import Derived.Deep.QuietTactic
import Derived.BigQuiet
import Derived.IntWalk
namespace Go.Proofs.Ytpnhdfingcfbnaa
open Go.RowKit

/-- A queue of the call's own, and a row of numbers of its own. -/
structure OSt (W w : World) (p : Nat) (v : Value) (r : Nat → Nat) (Q : QS) (ns : List Nat) : Prop where
  m : MineQ W w p r Q
  i : InRow w W.heap.size v ns
  ir : ∀ j, v.ownBlock = some j → r j = 0

theorem OSt.below {W w w' : World} {p : Nat} {v : Value} {r : Nat → Nat} {Q : QS} {ns : List Nat} (h : OSt W w p v r Q ns) (hB : Below w.heap.size w w') : OSt W w' p v r Q ns := ⟨h.m.below hB, h.i.below hB, h.ir⟩
theorem OSt.alloc {W w : World} {p : Nat} {v : Value} {r : Nat → Nat} {Q : QS} {ns : List Nat} (h : OSt W w p v r Q ns) (o : Obj) : OSt W (w.alloc o) p v r Q ns := h.below ((Below.refl _ _).alloc (Nat.le_refl _) _)
theorem OSt.step {W w w' : World} {p : Nat} {v : Value} {r r' : Nat → Nat} {Q Q' : QS} {ns : List Nat} (h : OSt W w p v r Q ns) (hQ : Que w' p r' Q') (hO : Only (fun k => r k ≠ 0) w w') (hr : ∀ k, r' k ≠ 0 → r k ≠ 0 ∨ w.heap.size ≤ k) : OSt W w' p v r' Q' ns := by
  refine ⟨h.m.step hQ hO hr, h.i.keep hO (fun k hk e => e (h.ir k hk)), fun j hj => ?_⟩
  rcases Nat.eq_zero_or_pos (r' j) with e | e
  · exact e
  · rcases hr j (by omega) with h1 | h1
    · exact absurd (h.ir j hj) h1
    · have := (h.i.ge j hj).2; omega
theorem OSt.app {W w w' : World} {p : Nat} {v v' : Value} {r : Nat → Nat} {Q : QS} {ns ns' : List Nat} (h : OSt W w p v r Q ns) (hI : InRow w' W.heap.size v' ns') (hO : Only (fun k => v.ownBlock = some k) w w') (hn : ∀ k, v'.ownBlock = some k → v.ownBlock = some k ∨ w.heap.size ≤ k) : OSt W w' p v' r Q ns' :=
  ⟨⟨h.m.q.keep hO (fun k hk e => hk (h.ir k e)), h.m.new, h.m.bel.trans (hO.below h.m.bel.size (fun k hk e => by have := (h.i.ge k e).1; omega))⟩, hI, fun j hj => (hn j hj).elim (h.ir j) (fun e => h.m.q.zero e)⟩
theorem OSt.nil {W w : World} {p : Nat} {v : Value} {r : Nat → Nat} {Q : QS} {ns : List Nat} (h : OSt W w p v r Q ns) : OSt W w p (.slice none 0 0) r Q [] := ⟨h.m, .inl ⟨rfl, rfl⟩, fun j hj => by simp [Value.ownBlock] at hj⟩

theorem OSt.drewN {W w : World} {p : Nat} {v : Value} {r : Nat → Nat} {Q : QS} {ns : List Nat} (h : OSt W w p v r Q ns) (n : Nat) : OSt W (w.drewN n) p v r Q ns := h.below (below_drewN (Below.refl _ _) n)

/-- What holds ahead of each round: the numbers kept are those of the queue's items. -/
def ORel (W : World) (p it sz n : Nat) (v d i : Value) (w : World) : Prop :=
  ∃ (k : Nat) (r : Nat → Nat) (Q : QS), i = .int .i64 k ∧ k ≤ n ∧ d = .int .u64 Q.drops ∧ Q.drops ≤ k ∧ OSt W w p v r Q (Q.L.map It.no) ∧ Q.items = it ∧ Q.bound = sz
/-- Behind the call itself. -/
def OMid (W : World) (p it sz k : Nat) (v d : Value) (w : World) : Prop :=
  ∃ (r : Nat → Nat) (Q : QS), d = .int .u64 Q.drops ∧ Q.drops ≤ k + 1 ∧ OSt W w p v r Q (Q.L.map It.no) ∧ Q.items = it ∧ Q.bound = sz

/-- Behind the calls: what is popped. -/
def SRel (W : World) (p : Nat) (v : Value) (ns : List Nat) (i : Value) (w : World) : Prop :=
  ∃ (j : Nat) (r : Nat → Nat) (Q : QS), i = .int .i64 j ∧ j ≤ ns.length ∧ OSt W w p v r Q ns ∧ Q.L.map It.no = ns.drop j

theorem pop_q_nil {w : World} {p : Nat} {r : Nat → Nat} {Q : QS} (h : Que w p r Q) (h0 : Q.L = []) :
    Calls Try.prog 13 #[.pointer (some ⟨p, 0, none⟩)] w fun e w' => e = .returned (.tuple #[.agg #[.int .u64 0, .int .i64 0, .slice none 0 0], .bool false]) ∧ Below w.heap.size w w' := let ⟨_, _, _, _, h⟩ := h; pop_empty h h0
theorem room_q (s : Int) {w : World} {p : Nat} {r : Nat → Nat} {Q : QS} (h : Que w p r Q) :
    Calls Try.prog 15 #[.pointer (some ⟨p, 0, none⟩), .int .i64 s] w fun e w' => e = .returned (.bool (roomB Q s)) ∧ ∃ n, w' = w.drewN n := let ⟨_, _, _, _, h⟩ := h; room_is s h
theorem Que.few {w : World} {p : Nat} {r : Nat → Nat} {Q : QS} (h : Que w p r Q) : Q.L.length ≤ Q.items := let ⟨_, _, _, _, h⟩ := h; h.few
theorem Que.sum {w : World} {p : Nat} {r : Nat → Nat} {Q : QS} (h : Que w p r Q) : sumQ Q.L ≤ Q.bound := let ⟨_, _, _, _, h⟩ := h; h.sum

set_option maxRecDepth 100000 in
set_option maxHeartbeats 4000000 in
theorem order_any (it sz : Int) (lv : Value) (l : List Act1) (w : World) (hl : IsActs w lv l) :
    Calls Try.prog 4 #[.int .i64 it, .int .i64 sz, lv] w fun e w' => e = .returned (.bool true) ∧ Below w.heap.size w w' := by
  obtain ⟨la, lc, elv, hlc⟩ := id hl
  have HLL := Lib.hid hl
  have HLC := Lib.hid hlc
  clear hl hlc
  subst elv
  go_enter Try.func4, Try.ntmps4
  go_wp2_with fail
  refine (few_any _ l _ HLL.out).mono ?_
  rintro e w' ⟨b, rfl, rfl, hb⟩
  obtain ⟨w, rfl⟩ : ∃ w0 : World, w0 = w' := ⟨_, rfl⟩
  cases b with
  | false =>
    clear hb
    go_wp2_with fail
    refine (works_any _).mono ?_
    rintro e w' ⟨rfl, hB⟩
    go_wp2_with fail
    go_ret
    exact ⟨rfl, hB⟩
  | true =>
    have HF := Lib.hid (hb rfl)
    clear hb
    go_wp2_with fail
    refine (pick_any it 41 (by omega) (by omega) _).mono ?_
    rintro e w' ⟨rfl, rfl⟩
    go_wp2_with fail
    refine (pick_any sz 401 (by omega) (by omega) _).mono ?_
    rintro e w' ⟨rfl, rfl⟩
    obtain ⟨w, rfl⟩ : ∃ w0 : World, w0 = w' := ⟨_, rfl⟩
    have hit := pickN_lt (i := it) (n := 41) (by omega)
    have hsz := pickN_lt (i := sz) (n := 401) (by omega)
    generalize pickN it 41 = it' at *
    generalize pickN sz 401 = sz' at *
    have hit' : it' ≤ 40 := by omega
    have hsz' : sz' ≤ 400 := by omega
    clear hit hsz
    go_wp2_with fail
    refine (new_q it' sz' (by omega) (by omega) _).mono ?_
    rintro e w1 ⟨p, r1, rfl, M1⟩
    have HM := Lib.hid M1
    clear M1
    have hl60 : l.length ≤ 60 := HF.out.1
    go_wp2_with fail
    go_loopw [9, 10, 11] (ORel w p it' sz' l.length) (fun _ _ i _ => l.length - (intOf i).toNat)
    case atStart => exact ⟨0, r1, empty it' sz', rfl, Nat.zero_le _, rfl, Nat.zero_le _, ⟨HM.out, .inl ⟨rfl, rfl⟩, fun j h => by simp [Value.ownBlock] at h⟩, rfl, rfl⟩
    case round =>
      clear HM
      obtain ⟨k, r, Q, rfl, hk, rfl, hd, hS, hQi, hQs⟩ := hrel
      by_cases hlt : k < l.length
      · obtain ⟨b, o, rfl, hb, hA⟩ := HLC.out (by omega)
        obtain ⟨A, hAk⟩ : ∃ A, l[k]? = some A := ⟨_, List.getElem?_eq_getElem hlt⟩
        have hA1 := (hA k A hAk).below hb hS.m.bel
        obtain ⟨da, dc, ed, _⟩ := hA1.d
        have c0 := hA1.c0
        have c2 := hA1.c2
        have c3 := hA1.c3
        rw [ed] at c3
        have HS := Lib.hid hS
        have HA := Lib.hid (hA k A hAk)
        have HED := Lib.hid ed
        have hfew := HF.out.2 A (List.mem_of_getElem? hAk)
        have hku : IntKind.u64.wrap (k : Int) = (k : Int) := IntWalk.u64_in _ (by omega)
        obtain ⟨ia, ic, ev, hic⟩ := hS.i.shape
        rw [List.length_map] at ev
        subst ev
        have HIC := Lib.hid hic
        have HB := Lib.hid hb
        clear hS hA hA1 hAk ed hic hb
        go_upto_region 13 with (fail)
        go_cut [12] (fun v w' => v = .pointer (some ⟨wr.heap.size, 0, none⟩) ∧ w' = (wr.alloc (.cells #[.int .u64 k, .int .i64 (pickN A.size 101), .slice da A.ds.length dc] 37)).drew)
        case first =>
          go_region_held3 (fun w' => w'.cell? ⟨b, o + k * 4 + 2, none⟩ = some (.int .i64 A.size) ∧ w'.cell? ⟨b, o + k * 4 + 3, none⟩ = some (.slice da A.ds.length dc)) (go_keep)
            (first
              | (go_at_call 11; refine Calls.mono (pick_any A.size 101 (by omega) (by omega) _) ?_; rintro e w' ⟨rfl, rfl⟩))
          all_goals
            go_wp2_with fail
            go_meet
            case rel => exact ⟨rfl, rfl⟩
        case rest =>
          obtain ⟨rfl, rfl⟩ := hcut
          have hp101 := pickN_lt (i := A.size) (n := 101) (by omega)
          generalize pickN A.size 101 = ps at *
          have hBx : Below wr.heap.size wr (wr.alloc (.cells #[.int .u64 k, .int .i64 ps, .slice da A.ds.length dc] 37)).drew := ((Below.refl _ _).alloc (Nat.le_refl _) _).drew
          have S3 := HS.out.below hBx
          have hg3 : (wr.alloc (.cells #[.int .u64 k, .int .i64 ps, .slice da A.ds.length dc] 37)).drew.heap[wr.heap.size]? = _ := alloc_block_new wr (.cells #[.int .u64 k, .int .i64 ps, .slice da A.ds.length dc] 37)
          have hgn : r wr.heap.size = 0 := HS.out.m.q.zero (Nat.le_refl _)
          have hgv : ∀ j, (Value.slice ia Q.L.length ic).ownBlock = some j → j < wr.heap.size := fun j hj => (HS.out.i.ge j hj).2
          have hW := HS.out.m.bel.size
          generalize (wr.alloc (.cells #[.int .u64 k, .int .i64 ps, .slice da A.ds.length dc] 37)).drew = w3 at *
          obtain ⟨g, eg⟩ : ∃ t, wr.heap.size = t := ⟨_, rfl⟩
          rw [show (some (⟨wr.heap.size, 0, none⟩ : Addr)) = some ⟨g, 0, none⟩ by rw [eg]]
          rw [eg] at hg3 hgn hgv hW
          have x0 : w3.cell? ⟨g, 0, none⟩ = _ := cell_of_block hg3 0
          have x1 : w3.cell? ⟨g, 1, none⟩ = _ := cell_of_block hg3 1
          have x2 : w3.cell? ⟨g, 2, none⟩ = _ := cell_of_block hg3 2
          dsimp at x0 x1 x2
          have c03 := (hBx.cell (p := ⟨b, o + k * 4, none⟩) (Nat.lt_of_lt_of_le HB.out HS.out.m.bel.size)).trans c0
          have hdH : Holds8 w3 (.slice da A.ds.length dc) A.ds := by rw [← HED.out]; exact HA.out.d.below S3.m.bel
          have hdb : 0 < A.ds.length → ∀ k, (Value.slice da A.ds.length dc).ownBlock = some k → r k = 0 := fun h j hj => by
            have h1 := HA.out.d.lt h
            rw [HED.out] at h1
            exact HS.out.m.zero (h1 j hj)
          have HS3 := Lib.hid S3
          have HG3 := Lib.hid hg3
          have HGN := Lib.hid hgn
          have HGV := Lib.hid hgv
          have HW := Lib.hid hW
          have HDH := Lib.hid hdH
          have HDB := Lib.hid hdb
          clear S3 hg3 hgn hgv hW hdH hdb eg c0 c2 c3 HS HA HED hBx HIC
          go_wp2_with fail
          refine (pick_any A.kind 8 (by omega) (by omega) _).mono ?_
          rintro e w' ⟨rfl, rfl⟩
          obtain ⟨w3, rfl⟩ : ∃ w0 : World, w0 = w' := ⟨_, rfl⟩
          have hm8 := pickN_lt (i := A.kind) (n := 8) (by omega)
          generalize pickN A.kind 8 = m at *
          go_upto_block 2 with (fail)
          go_cut [9, 10] (OMid w p it' sz' k)
          case first =>
            refine wp_block ?_
            refine wp_seq_k ?_
            intro KK hKK
            go_cut [91] (fun v w' => v = .bool (decide (4 ≤ m ∧ m ≤ 6)) ∧ w' = w3)
            case first =>
              by_cases h4 : m = 4
              · subst h4
                go_wp2_with fail
                go_meet
                case rel => exact ⟨rfl, rfl⟩
              · by_cases h5 : m = 5
                · subst h5
                  go_wp2_with fail
                  go_meet
                  case rel => exact ⟨rfl, rfl⟩
                · by_cases h6 : m = 6
                  · subst h6
                    go_wp2_with fail
                    go_meet
                    case rel => exact ⟨rfl, rfl⟩
                  · go_wp2_with fail
                    go_meet
                    case rel => exact ⟨by rw [decide_eq_false (show ¬ (4 ≤ m ∧ m ≤ 6) by omega)]; exact congrArg Value.bool (by simp; omega), rfl⟩
            case rest =>
              obtain ⟨rfl, rfl⟩ := hcut
              obtain ⟨w3, rfl⟩ : ∃ w0 : World, w0 = wc := ⟨_, rfl⟩
              by_cases h46 : 4 ≤ m ∧ m ≤ 6
              · rw [decide_eq_true h46]
                go_wp2_with fail
                by_cases hL0 : Q.L = []
                · refine (pop_q_nil HS3.out.m.q hL0).mono ?_
                  rintro e w4 ⟨rfl, hB4⟩
                  have S4 := HS3.out.below hB4
                  have hl0 : Q.L.length = 0 := by rw [hL0]; rfl
                  have HS4 := Lib.hid S4
                  clear S4 hB4 hL0
                  go_upto_region 26 with (fail)
                  go_quiet (fail)
                  go_wp2_with fail
                  go_meet
                  case rel =>
                    exact ⟨r, Q, rfl, by omega, by simpa only [hl0, Int.natCast_zero] using (HS4.out.alloc _).drewN _, hQi, hQs⟩
                · obtain ⟨x, L, hL⟩ : ∃ x L, Q.L = x :: L := by cases h : Q.L with | nil => exact absurd h hL0 | cons x L => exact ⟨x, L, rfl⟩
                  clear hL0
                  refine (pop_q x L HS3.out.m.q hL).mono ?_
                  rintro e w4 ⟨v, rfl, hQ4, hO4, hv4⟩
                  have S4 := HS3.out.step hQ4 hO4 (fun _ h => .inl h)
                  obtain ⟨va, vc, rfl⟩ := own_shape hv4
                  have S5 := S4.alloc (.cells #[.int .u64 x.no, .int .i64 x.size, .slice va x.data.length vc] 37)
                  rw [hL, List.map_cons] at S5
                  obtain ⟨hi0, hi1, hi2, hi3⟩ := S5.i.tail rfl
                  obtain ⟨gi, oi, rfl, ci⟩ := S5.i.head
                  have hl1 : Q.L.length = L.length + 1 := by rw [hL]; rfl
                  have y0 : (w4.alloc (.cells #[.int .u64 x.no, .int .i64 x.size, .slice va x.data.length vc] 37)).cell? ⟨w4.heap.size, 0, none⟩ = _ := cell_of_block (alloc_block_new w4 _) 0
                  dsimp at y0
                  have hdr : (popped Q L).drops = Q.drops := rfl
                  have S6 : OSt w (w4.alloc (.cells #[.int .u64 x.no, .int .i64 x.size, .slice va x.data.length vc] 37)) p (.slice (if ic = 1 then some ⟨gi, oi, none⟩ else some ⟨gi, oi + 1, none⟩) L.length (ic - 1)) r (popped Q L) (L.map It.no) := by
                    rw [List.length_map, Option.map_some, Addr.add_lit] at hi0
                    exact ⟨S5.m, hi0, fun j hj => S5.ir j (by rw [← hi3, List.length_map, Option.map_some, Addr.add_lit]; exact hj)⟩
                  have HS6 := Lib.hid S6
                  have HI2 := Lib.hid hi2
                  have HL := Lib.hid hL
                  clear S4 S5 S6 hi0 hi1 hi2 hi3 hQ4 hO4 hv4 hL
                  go_upto_region 26 with (fail)
                  generalize w4.alloc (.cells #[.int .u64 x.no, .int .i64 x.size, .slice va x.data.length vc] 37) = w5 at *
                  go_quiet (fail)
                  have hi2 := HI2.out
                  by_cases hc1 : ic = 1
                  · have hS6 := HS6.out
                    rw [if_pos hc1, show ic - 1 = 0 by omega] at hS6
                    have HS7 := Lib.hid hS6
                    clear hS6 HS6
                    go_wp2_with fail
                    go_meet
                    case rel => exact ⟨r, popped Q L, rfl, by rw [hdr]; omega, HS7.out.drewN _, hQi, hQs⟩
                  · have hS6 := HS6.out
                    rw [if_neg hc1] at hS6
                    have HS7 := Lib.hid hS6
                    clear hS6 HS6
                    go_wp2_with fail
                    go_meet
                    case rel => exact ⟨r, popped Q L, rfl, by rw [hdr]; omega, HS7.out.drewN _, hQi, hQs⟩

              · rw [decide_eq_false h46]
                have h4 : ¬ m = 4 := by omega
                have h5 : ¬ m = 5 := by omega
                have h6 : ¬ m = 6 := by omega
                clear h46
                by_cases h7 : m = 7
                · subst h7
                  go_wp2_with fail
                  refine (clear_q HS3.out.m.q).mono ?_
                  rintro e w4 ⟨rfl, hQ4, hO4⟩
                  have S4 := (HS3.out.step hQ4 hO4 (fun _ h => .inl h)).nil
                  have HS4 := Lib.hid S4
                  clear S4 hQ4 hO4
                  go_wp2_with fail
                  go_meet
                  case rel => exact ⟨r, cleared Q, rfl, by show Q.drops ≤ _; omega, HS4.out, hQi, hQs⟩
                · have hm4 : m < 4 := by omega
                  have hml : (m : Int) < 4 := by omega
                  clear h4 h5 h6 h7 hm8
                  have hps : ps ≤ 100 := by omega
                  cases hr : roomB Q ps with
                  | true =>
                    have HR := Lib.hid hr
                    have hroom := room_q (ps : Int) HS3.out.m.q
                    rw [hr] at hroom
                    have HRO := Lib.hid hroom
                    clear hr hroom
                    go_wp2_with fail
                    refine HRO.out.mono ?_
                    rintro e w4 ⟨rfl, nd, rfl⟩
                    have hD := below_drewN (Below.refl w3.heap.size w3) nd
                    have S4 := HS3.out.below hD
                    have z0 := (hD.cell (p := ⟨g, 0, none⟩) (lt_of_obj HG3.out)).trans x0
                    have z1 := (hD.cell (p := ⟨g, 1, none⟩) (lt_of_obj HG3.out)).trans x1
                    have z2 := (hD.cell (p := ⟨g, 2, none⟩) (lt_of_obj HG3.out)).trans x2
                    have hg4 := (hD.block g (lt_of_obj HG3.out)).trans HG3.out
                    have hy4 := HDH.out.below hD
                    have HS4 := Lib.hid S4
                    have HG4 := Lib.hid hg4
                    have HY4 := Lib.hid hy4
                    clear S4 hg4 hy4 x0 x1 x2 c03 HRO hD
                    generalize w3.drewN nd = w4 at *
                    go_wp2_with fail
                    refine (push_q 0 k ps ⟨k, ps, A.ds⟩ _ HS4.out.m.q HY4.out HDB.out (by show A.ds.length ≤ _; omega) (by omega) rfl rfl (by rw [if_pos (show roomB Q ((⟨k, ps, A.ds⟩ : It).size : Nat) = true from HR.out)])).mono ?_
                    rintro e w5 ⟨rfl, r5, hQ5, hO5, hr5⟩
                    have hpr : pushR Q ⟨k, ps, A.ds⟩ = pushed Q ⟨k, ps, A.ds⟩ := if_pos HR.out
                    rw [hpr] at hQ5
                    have S5 := HS4.out.step hQ5 hO5 hr5
                    have hg5 := hO5.keep HG4.out (by rw [HGN.out]; exact fun h => h rfl)
                    have q0 : w5.cell? ⟨g, 0, none⟩ = _ := cell_of_block hg5 0
                    dsimp at q0
                    have HS5 := Lib.hid S5
                    have HG5 := Lib.hid hg5
                    clear hQ5 hO5 hr5 S5 hg5 z0 z1 z2 hpr
                    go_wp2_with (first | (at_builtin; refine wpList_append_in rfl _ _ rfl (v := .slice ia Q.L.length ic) (ns := Q.L.map It.no) (B := w.heap.size) rfl ?_ _ k 1 rfl (one_new _ _ _) ?_ ?_ ?_))
                    · exact (HS5.out.alloc _).i
                    · have := HS3.out.m.q.few; rw [List.length_map]; omega
                    · exact (HS5.out.alloc _).m.bel.size
                    · intro v' w' hI hO hn
                      have S6 := (HS5.out.alloc _).app hI hO (fun k hk => (hn k hk).imp id (fun h => by simpa using h))
                      have HS6 := Lib.hid S6
                      clear hI hO hn S6
                      go_wp2_with fail
                      go_meet
                      case rel => exact ⟨r5, pushed Q ⟨k, ps, A.ds⟩, rfl, by show Q.drops ≤ _; omega, by simpa [pushed] using HS6.out, hQi, hQs⟩
                  | false =>
                    have HR := Lib.hid hr
                    have hroom := room_q (ps : Int) HS3.out.m.q
                    rw [hr] at hroom
                    have HRO := Lib.hid hroom
                    clear hr hroom
                    go_wp2_with fail
                    refine HRO.out.mono ?_
                    rintro e w4 ⟨rfl, nd, rfl⟩
                    have hD := below_drewN (Below.refl w3.heap.size w3) nd
                    have S4 := HS3.out.below hD
                    have z0 := (hD.cell (p := ⟨g, 0, none⟩) (lt_of_obj HG3.out)).trans x0
                    have z1 := (hD.cell (p := ⟨g, 1, none⟩) (lt_of_obj HG3.out)).trans x1
                    have z2 := (hD.cell (p := ⟨g, 2, none⟩) (lt_of_obj HG3.out)).trans x2
                    have hg4 := (hD.block g (lt_of_obj HG3.out)).trans HG3.out
                    have hy4 := HDH.out.below hD
                    have HS4 := Lib.hid S4
                    have HG4 := Lib.hid hg4
                    have HY4 := Lib.hid hy4
                    clear S4 hg4 hy4 x0 x1 x2 c03 HRO hD
                    generalize w3.drewN nd = w4 at *
                    go_wp2_with fail
                    refine (push_q 110 k ps ⟨k, ps, A.ds⟩ _ HS4.out.m.q HY4.out HDB.out (by show A.ds.length ≤ _; omega) (by omega) rfl rfl (by rw [if_neg (show ¬ roomB Q ((⟨k, ps, A.ds⟩ : It).size : Nat) = true from by rw [show roomB Q ((⟨k, ps, A.ds⟩ : It).size : Nat) = false from HR.out]; decide)])).mono ?_
                    rintro e w5 ⟨rfl, r5, hQ5, hO5, hr5⟩
                    have hpr : pushR Q ⟨k, ps, A.ds⟩ = { Q with drops := Q.drops + 1 } := if_neg (by rw [show roomB Q ((⟨k, ps, A.ds⟩ : It).size : Nat) = false from HR.out]; decide)
                    rw [hpr] at hQ5
                    have S5 := HS4.out.step hQ5 hO5 hr5
                    have HS5 := Lib.hid S5
                    clear hQ5 hO5 hr5 S5 z0 z1 z2 hpr
                    go_wp2_with fail
                    go_meet
                    case rel => exact ⟨r5, { Q with drops := Q.drops + 1 }, by go_num, by show Q.drops + 1 ≤ _; omega, HS5.out, hQi, hQs⟩
          case rest =>
            obtain ⟨r5, Q5, rfl, hd5, hS5, hQi5, hQs5⟩ := hcut
            have hfw := hS5.m.q.few
            have hsm := hS5.m.q.sum
            rw [hQi5] at hfw
            rw [hQs5] at hsm
            obtain ⟨ja, jc, ev5, _⟩ := hS5.i.shape
            rw [List.length_map] at ev5
            subst ev5
            have hlen := len_q hS5.m.q
            have hsize := size_q hS5.m.q
            have hdrops := drops_q hS5.m.q
            have HS5 := Lib.hid hS5
            have HLEN := Lib.hid hlen
            have HSIZE := Lib.hid hsize
            have HDROPS := Lib.hid hdrops
            clear hS5 hlen hsize hdrops
            go_wp2_with (first
              | (go_at_call 21; refine HLEN.out.mono ?_; rintro e w' ⟨rfl, rfl⟩)
              | (go_at_call 22; refine HSIZE.out.mono ?_; rintro e w' ⟨rfl, rfl⟩)
              | (go_at_call 23; refine HDROPS.out.mono ?_; rintro e w' ⟨rfl, rfl⟩))
            go_roundw
            case rel => exact ⟨k + 1, r5, Q5, by go_num, by omega, rfl, hd5, HS5.out, hQi5, hQs5⟩
            case measure => simp [intOf]; omega
      · obtain ⟨ia, ic, ev, _⟩ := hS.i.shape
        have ev0 := ev
        rw [List.length_map] at ev
        subst ev
        have hle : Q.L.length ≤ 40 := by have := hS.m.q.few; omega
        obtain ⟨ns, hns⟩ : ∃ ns, Q.L.map It.no = ns := ⟨_, rfl⟩
        have hn : Q.L.length = ns.length := by rw [← hns, List.length_map]
        have hst : SRel w p (.slice ia ns.length ic) ns (.int .i64 (0 : Nat)) wr := ⟨0, r, Q, rfl, Nat.zero_le _, by rw [← hns]; rw [← hns] at hn; rw [← hn]; exact hS, by rw [hns]; rfl⟩
        rw [hn] at hle ⊢
        have HST := Lib.hid hst
        clear hS hns hn hst ev0 hd hQi hQs
        go_wp2_with fail
        clear hlt hk
        go_loopw [17] (SRel w p (.slice ia ns.length ic) ns) (fun i _ => ns.length - (intOf i).toNat)
        case atStart => exact HST.out
        case round =>
          clear HST
          obtain ⟨j, r, Q, rfl, hj, hS, hQ⟩ := hrel
          by_cases hlt : j < ns.length
          · obtain ⟨y, hy⟩ : ∃ y, ns[j]? = some y := ⟨_, List.getElem?_eq_getElem hlt⟩
            have hdr : ns.drop j = y :: ns.drop (j + 1) := by
              rw [List.drop_eq_getElem_cons hlt]
              rw [List.getElem?_eq_getElem hlt] at hy
              injection hy with hy
              rw [hy]
            rw [hdr] at hQ
            obtain ⟨x, L, hL, hxy, hLm⟩ : ∃ x L, Q.L = x :: L ∧ x.no = y ∧ L.map It.no = ns.drop (j + 1) := by
              cases h : Q.L with
              | nil => rw [h] at hQ; simp at hQ
              | cons x L => rw [h] at hQ; simp only [List.map_cons, List.cons.injEq] at hQ; exact ⟨x, L, rfl, hQ.1, hQ.2⟩
            have HS := Lib.hid hS
            have HY := Lib.hid hy
            have HXY := Lib.hid hxy
            have HLM := Lib.hid hLm
            have HL := Lib.hid hL
            clear hS hQ hdr hy hxy hLm hL
            go_wp2_with fail
            refine (pop_q x L HS.out.m.q HL.out).mono ?_
            rintro e w4 ⟨v, rfl, hQ4, hO4, hv4⟩
            have S4 := HS.out.step hQ4 hO4 (fun _ h => .inl h)
            obtain ⟨va, vc, rfl⟩ := own_shape hv4
            have S5 := S4.alloc (.cells #[.int .u64 x.no, .int .i64 x.size, .slice va x.data.length vc] 37)
            obtain ⟨gi, oi, rfl, ci⟩ := S5.i.at HY.out
            have y0 : (w4.alloc (.cells #[.int .u64 x.no, .int .i64 x.size, .slice va x.data.length vc] 37)).cell? ⟨w4.heap.size, 0, none⟩ = _ := cell_of_block (alloc_block_new w4 _) 0
            dsimp at y0
            have HS5 := Lib.hid S5
            clear S4 S5 hQ4 hO4 hv4
            go_upto_region 40 with (fail)
            generalize w4.alloc (.cells #[.int .u64 x.no, .int .i64 x.size, .slice va x.data.length vc] 37) = w5 at *
            rw [HXY.out] at y0
            go_quiet (fail)
            go_wp2_with fail
            go_roundw
            case rel => exact ⟨j + 1, r, popped Q L, by go_num, by omega, HS5.out.drewN _, HLM.out⟩
            case measure => simp [intOf]; omega
          · have hj2 : j = ns.length := by omega
            subst hj2
            have hL : Q.L = [] := by
              rw [List.drop_length] at hQ
              exact List.map_eq_nil_iff.1 hQ
            have hsize := size_q hS.m.q
            rw [hL] at hsize
            have HSZ := Lib.hid hsize
            have HB := Lib.hid hS.m.bel
            clear hsize hL hS hQ
            go_wp2_with fail
            refine HSZ.out.mono ?_
            rintro e w' ⟨rfl, rfl⟩
            go_wp2_with fail
            refine (works_any _).mono ?_
            rintro e w' ⟨rfl, hB⟩
            go_wp2_with fail
            go_ret
            exact ⟨rfl, HB.out.trans (hB.mono HB.out.size)⟩
end Go.Proofs.Ytpnhdfingcfbnaa
