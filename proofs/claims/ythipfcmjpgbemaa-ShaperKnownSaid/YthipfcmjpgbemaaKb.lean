/- ShaperKnown, walked. -/
import Derived.Test.YthipfcmjpgbemaaKa
import Derived.Outline
namespace Go.Proofs.Ythipfcmjpgbemaa
open Go.RowKit

def KnRel (W : World) (kv nv : Value) (w : World) : Prop := ∃ k n : Nat, kv = .int .i64 k ∧ nv = .int .i64 n ∧ n ≤ 80 ∧ k ≤ 100002 ∧ Below W.heap.size W w
def KcRel (W : World) (m : Nat) (kv lv iv : Value) (w : World) : Prop :=
  ∃ (k i : Nat) (l : List Cl) (a : Option Addr) (c : Nat), kv = .int .i64 k ∧ iv = .int .i64 i ∧ lv = .slice a i c ∧ l.length = i ∧ i ≤ m + 1 ∧ k ≤ 100002 ∧ R4 w W.heap.size 46 lv (l.map cRow) ∧ (∀ x ∈ l, x.Ok) ∧ Below W.heap.size W w
def KaRel (W : World) (kv av tv iv : Value) (w : World) : Prop :=
  ∃ (k i t : Nat) (l : List Ac) (a : Option Addr) (c : Nat), kv = .int .i64 k ∧ iv = .int .i64 i ∧ tv = .int .u64 t ∧ av = .slice a i c ∧ l.length = i ∧ i ≤ 40 ∧ k ≤ 100002 ∧ t ≤ 3 * i ∧ w.ownsRow W.heap.size 36 6 av i (acCells l) ∧ (∀ A ∈ l, Bare A) ∧ Below W.heap.size W w

theorem kc_next {W wr wA w' : World} {l : List Cl} {x : Cl} {m i k2 : Nat} {la va : Option Addr} {lc vc : Nat} (hR : R4 wr W.heap.size 46 (.slice la i lc) (l.map cRow)) (hok : ∀ y ∈ l, y.Ok) (hB : Below W.heap.size W wr) (hl : l.length = i) (hi : i ≤ m) (hk : k2 ≤ 100002) (hx : x.Ok) (hA : Below wr.heap.size wr wA)
    (hown : w'.ownsRow 0 46 4 (.slice va (i + 1) vc) (i + 1) ((l.map cRow).flatten ++ cRow x)) (hg : wA.grownBy w' (Value.slice la i lc).ownBlock) (hb : (Value.slice va (i + 1) vc).ownBlock = (Value.slice la i lc).ownBlock ∨ (Value.slice va (i + 1) vc).ownBlock = some wA.heap.size) :
    KcRel W m (.int .i64 k2) (.slice va (i + 1) vc) (.int .i64 (i + 1 : Nat)) w' := by
  have hlm : (l.map cRow).length = i := by rw [List.length_map]; exact hl
  have hRA := hR.below hA
  have hs := hB.size
  have hsA := hA.size
  have hO : Only (fun k' => (Value.slice la i lc).ownBlock = some k') wA w' := (Only.refl _ _).grown hg (fun k' hk' _ => hk')
  refine ⟨k2, i + 1, l ++ [x], va, vc, rfl, rfl, rfl, by rw [List.length_append, hl]; rfl, by omega, hk, ?_, fun y hy => ?_, (hB.trans (hA.mono hs)).trans (hO.below (by omega) (fun j hj e => by have := (hRA.lt e).1; omega))⟩
  · rw [List.map_append]
    exact hRA.app rfl (by omega) (by rw [hlm]; exact hown) hb
  · rcases List.mem_append.1 hy with h | h
    · exact hok y h
    · simp at h
      rw [h]
      exact hx
theorem ka_next {W wr wA w' : World} {l : List Ac} {x : Ac} {i k2 t2 : Nat} {la va : Option Addr} {lc vc : Nat} (hrow : wr.ownsRow W.heap.size 36 6 (.slice la i lc) i (acCells l)) (hba : ∀ A ∈ l, Bare A) (hB : Below W.heap.size W wr) (hl : l.length = i) (hi : i < 40) (hk : k2 ≤ 100002) (ht : t2 ≤ 3 * (i + 1)) (hx : Bare x) (hA : Below wr.heap.size wr wA)
    (hown : w'.ownsRow 0 36 6 (.slice va (i + 1) vc) (i + 1) (acCells l ++ [.int .i64 x.kind, .int .i64 x.cls, .int .u64 x.no, .int .i64 x.size, x.dv, .int .u64 x.tick])) (hg : wA.grownBy w' (Value.slice la i lc).ownBlock) (hb : (Value.slice va (i + 1) vc).ownBlock = (Value.slice la i lc).ownBlock ∨ (Value.slice va (i + 1) vc).ownBlock = some wA.heap.size) :
    KaRel W (.int .i64 k2) (.slice va (i + 1) vc) (.int .u64 t2) (.int .i64 (i + 1 : Nat)) w' := by
  have hs := hB.size
  have hsA := hA.size
  have hO : Only (fun k' => (Value.slice la i lc).ownBlock = some k') wA w' := (Only.refl _ _).grown hg (fun k' hk' _ => hk')
  refine ⟨k2, i + 1, t2, l ++ [x], va, vc, rfl, rfl, rfl, rfl, by rw [List.length_append, hl]; rfl, by omega, hk, ht, ?_, fun y hy => ?_, (hB.trans (hA.mono hs)).trans (hO.below (by omega) (fun j hj e => by have := own_ge hrow j e; omega))⟩
  · rw [acCells_snoc] at hown
    refine own_raise hown (fun k hk => ?_)
    rcases hb with e | e
    · rw [e] at hk
      exact own_ge hrow k hk
    · rw [e] at hk
      injection hk with hk
      omega
  · rcases List.mem_append.1 hy with h | h
    · exact hba y h
    · simp at h
      rw [h]
      exact hx

/-- The last classes and acts, in blocks of their own. -/
theorem acs_blk {w : World} {g : Nat} {cs : Array Value} (hg : w.heap[g]? = some (.cells cs 36 (0, 0))) (l : List Ac) (hc : cs.toList = acCells l) (hl : l.length ≤ 1000000) (hb : ∀ A ∈ l, Bare A) : IsAcs w (.slice (some ⟨g, 0, none⟩) l.length l.length) l := by
  have hlen := acCells_len l
  refine acs_of (B := 0) ⟨hlen, .inr ⟨g, l.length, cs, rfl, Nat.zero_le _, hg, Nat.le_refl _, by unfold maxLen; omega, by rw [← Array.length_toList, hc, hlen], ?_⟩⟩ hb
  rw [hc, List.take_of_length_le (by omega)]
def oddA : Array Value := #[.int .u64 0, .int .u64 2047, .int .i64 0, .int .i64 0, .int .u64 0, .int .u64 2048, .int .i64 (-1), .int .i64 0, .int .u64 0, .int .u64 2048, .int .i64 0, .int .i64 (-1), .int .u64 0, .int .u64 2048, .int .i64 65537, .int .i64 0, .int .u64 18446744073709551615, .int .u64 18446744073709551615, .int .i64 65536, .int .i64 9223372036854775807]
def allB : Array Value := #[.int .i64 0, .int .i64 0, .int .u64 0, .int .i64 2048, .slice none 0 0, .int .u64 0, .int .i64 0, .int .i64 0, .int .u64 0, .int .i64 2049, .slice none 0 0, .int .u64 0, .int .i64 0, .int .i64 0, .int .u64 0, .int .i64 (-1), .slice none 0 0, .int .u64 0, .int .i64 0, .int .i64 (-1), .int .u64 0, .int .i64 0, .slice none 0 0, .int .u64 0, .int .i64 0, .int .i64 1, .int .u64 0, .int .i64 0, .slice none 0 0, .int .u64 0, .int .i64 3, .int .i64 0, .int .u64 0, .int .i64 0, .slice none 0 0, .int .u64 18446744073709551615, .int .i64 0, .int .i64 0, .int .u64 0, .int .i64 1, .slice none 0 0, .int .u64 0, .int .i64 3, .int .i64 0, .int .u64 0, .int .i64 0, .slice none 0 0, .int .u64 0, .int .i64 5, .int .i64 0, .int .u64 0, .int .i64 0, .slice none 0 0, .int .u64 0]
def lastW (w : World) : World := (w.alloc (.cells oddA 46)).alloc (.cells allB 36)
theorem last_world (w : World) : Cls (lastW w) (.slice (some ⟨w.heap.size, 0, none⟩) 5 5) oddL ∧ IsAcs (lastW w) (.slice (some ⟨w.heap.size + 1, 0, none⟩) 9 9) allA ∧ Below w.heap.size w (lastW w) := by
  have hB : Below w.heap.size w (lastW w) := ((Below.refl _ _).alloc (Nat.le_refl _) _).alloc (by rw [alloc_size]; omega) _
  have h1 : (lastW w).heap[w.heap.size]? = some (.cells oddA 46 (0, 0)) := (alloc_block_old _ (by rw [alloc_size]; omega)).trans (alloc_block_new w _)
  have h2 : (lastW w).heap[w.heap.size + 1]? = some (.cells allB 36 (0, 0)) := by
    have := alloc_block_new (w.alloc (.cells oddA 46)) (.cells allB 36)
    rwa [alloc_size] at this
  exact ⟨cls_blk h1 oddL rfl (by decide) odd_ok, acs_blk h2 allA rfl (by decide) all_bare, hB⟩
theorem Cls.cells {w : World} {g n c : Nat} {l : List Cl} (h : Cls w (.slice (some ⟨g, 0, none⟩) n c) l) {i : Nat} {x : Cl} (hi : l[i]? = some x) : w.cell? ⟨g, i * 4, none⟩ = some (.int .u64 x.rate) ∧ w.cell? ⟨g, i * 4 + 1, none⟩ = some (.int .u64 x.burst) ∧ w.cell? ⟨g, i * 4 + 2, none⟩ = some (.int .i64 x.items) ∧ w.cell? ⟨g, i * 4 + 3, none⟩ = some (.int .i64 x.size) := by
  obtain ⟨a, c', e, hc, hx⟩ := h.sh
  injection e with e1 e2 e3
  subst e1
  have hil := (List.getElem?_eq_some_iff.1 hi).1
  obtain ⟨b, o, eb, hb, hj⟩ := hx (by omega)
  injection eb with eb
  injection eb with eb1 eb2
  subst eb1 eb2
  have := hj i x hi
  rwa [Nat.zero_add] at this
def KdRel (W : World) (g : Nat) (iv : Value) (w : World) : Prop := ∃ i : Nat, iv = .int .i64 i ∧ i ≤ 5 ∧ Below W.heap.size W w ∧ Cls w (.slice (some ⟨g, 0, none⟩) 5 5) oddL ∧ IsAcs w (.slice (some ⟨g + 1, 0, none⟩) 9 9) allA
theorem make_cls : ∃ C : Array Value, C.toList = ((List.replicate 9 (⟨0, 0, 0, 0⟩ : Cl)).map cRow).flatten ∧
    ∀ w : World, (Instr.makeSlice 22 (.int .i64 9) (.int .i64 9)).run Try.prog w = .ok (.slice (some ⟨w.heap.size, 0, none⟩) 9 9) (w.alloc (.cells C 46)) := by
  obtain ⟨i0, hi, hz0, hz1, hz2⟩ := info_parts info_sc
  refine ⟨madeCells (Value.agg #[.int .u64 0, .int .u64 0, .int .i64 0, .int .i64 0]).cells 36, by
    unfold madeCells
    rw [Array.toList_map, Array.toList_range]
    rfl, fun w => ?_⟩
  have h := run_makeSlice (P := Try.prog) w 22 46 i0 _ Try.underlying22 hi hz0 .i64 .i64 9 9 (by omega) (Int.le_refl _) (by rw [hz1]; simp) (by rw [hz2]; omega) (by omega)
  rw [hz1] at h
  simpa using h

set_option maxRecDepth 100000 in
set_option maxHeartbeats 4000000 in
theorem known_any (w : World) :
    Calls Try.prog 7 #[] w fun e w' => e = .returned (.bool true) ∧ Below w.heap.size w w' := by
  go_enter Try.func7, Try.ntmps7
  go_wp2_with fail
  go_loopw [1, 2] (KnRel w) (fun _ n _ => 80 - (intOf n).toNat)
  case atStart => exact ⟨1, 0, rfl, rfl, Nat.zero_le _, by decide, Below.refl _ _⟩
  case round =>
    obtain ⟨k, n, rfl, rfl, hn80, hk, hB⟩ := hrel
    have HB := Lib.hid hB
    clear hB
    by_cases hlt : n < 80
    · obtain ⟨wo, rfl⟩ : ∃ wo : World, wo = wr := ⟨_, rfl⟩
      have hni : (n : Int) < 80 := by omega
      obtain ⟨m, hm⟩ : ∃ m : Nat, (n : Int) % 4 = m := ⟨n % 4, by omega⟩
      have hm3 : m ≤ 3 := by omega
      go_wp2_with fail
      go_loopw [1, 3, 4] (KcRel wo m) (fun _ _ i _ => 5 - (intOf i).toNat)
      case atStart => exact ⟨k, 0, [], none, 0, rfl, rfl, rfl, rfl, Nat.zero_le _, hk, r4_nil _ _ _, fun x hx => (by cases hx), Below.refl _ _⟩
      case round =>
        obtain ⟨k, i, l, la, lc, rfl, rfl, rfl, hli, hi, hk, hR, hok, hB⟩ := hrel
        by_cases hil : i ≤ m
        · have hii : (i : Int) ≤ (m : Int) := by omega
          obtain ⟨r1, h1⟩ : ∃ r1 : Nat, (k : Int) % 700 = r1 := ⟨k % 700, by omega⟩
          obtain ⟨r2, h2⟩ : ∃ r2 : Nat, (k : Int) % 3000 = r2 := ⟨k % 3000, by omega⟩
          obtain ⟨r3, h3⟩ : ∃ r3 : Nat, (k : Int) % 6 = r3 := ⟨k % 6, by omega⟩
          obtain ⟨r4, h4⟩ : ∃ r4 : Nat, (k : Int) % 9000 = r4 := ⟨k % 9000, by omega⟩
          obtain ⟨k2, h5⟩ : ∃ k2 : Nat, ((k : Int) * 31 + 7 * (i : Int) + 11) % 100003 = k2 := ⟨(k * 31 + 7 * i + 11) % 100003, by omega⟩
          have b1 : r1 < 700 := by omega
          have b2 : r2 < 3000 := by omega
          have b3 : r3 < 6 := by omega
          have b4 : r4 < 9000 := by omega
          have b5 : k2 ≤ 100002 := by omega
          have hlm : (l.map cRow).length = i := by rw [List.length_map]; exact hli
          obtain ⟨i0, hi0, hz0, hz1, hz2⟩ := info_parts info_sc
          have hrow := own_lower hR.row (Nat.zero_le _)
          rw [hlm] at hrow
          have HX := Lib.hid (And.intro hR (And.intro hok (And.intro hB (And.intro hrow (And.intro hlm hli)))))
          clear hR hok hB hrow hlm hli
          go_wp2_with (first | (at_builtin; refine wpList_append_row _ rfl (.tmp 21) (.tmp 36) 22 rfl 46 i0 _ 4 32 Try.underlying22 hi0 hz0 hz1 hz2 rfl (by decide) (.slice la i lc) i ((l.map cRow).flatten) rfl (own_only HX.out.2.2.2.1 (Below.only ((Below.refl _ _).alloc (Nat.le_refl _) _) (fun _ => False)) (fun _ _ h => h)) ⟨wr.heap.size, 0, none⟩ 1 1 (cRow ⟨r1, 2048 + r2, 1 + (r3 : Int), 1000 + (r4 : Int)⟩) rfl rfl (four_new _ _ rfl _ _ _ _ _) (by intro u hu; simp [cRow] at hu; rcases hu with rfl | rfl | rfl | rfl <;> rfl) (by unfold maxLen; omega) (by omega) ?_))
          intro v2 w2 hown hg hb
          obtain ⟨va, vc, ev⟩ := own_shape hown
          subst ev
          have HR := Lib.hid (kc_next (m := m) (k2 := k2) (x := ⟨r1, 2048 + r2, 1 + (r3 : Int), 1000 + (r4 : Int)⟩) HX.out.1 HX.out.2.1 HX.out.2.2.1 HX.out.2.2.2.2.2 hil b5 ⟨by show r1 < _; omega, by show 2048 + r2 < _; omega, by show _ ≤ 1 + (r3 : Int) ∧ 1 + (r3 : Int) ≤ _; omega, by show _ ≤ 1000 + (r4 : Int) ∧ 1000 + (r4 : Int) ≤ _; omega⟩ ((Below.refl _ _).alloc (Nat.le_refl _) _) hown hg (by simpa using hb))
          clear hown hg hb HX
          go_wp2_with fail
          go_roundw
          case rel => first | exact HR.out | (rw [h5]; exact HR.out)
          case measure => simp [intOf]; omega
        · have hii : ¬ (i : Int) ≤ (m : Int) := by omega
          have HC := Lib.hid (And.intro (hR.cls hok) (HB.out.trans (hB.mono HB.out.size)))
          clear hR hok hB
          obtain ⟨wp, rfl⟩ : ∃ wp : World, wp = wr := ⟨_, rfl⟩
          go_wp2_with fail
          go_loopw [1, 5, 6, 7] (KaRel wp) (fun _ _ _ i _ => 40 - (intOf i).toNat)
          case atStart => exact ⟨k, 0, 0, [], none, 0, rfl, rfl, rfl, rfl, rfl, Nat.zero_le _, hk, Nat.zero_le _, ⟨rfl, .inl ⟨rfl, rfl⟩⟩, fun x hx => (by cases hx), Below.refl _ _⟩
          case round =>
            obtain ⟨k, j, t, la2, aa, ac, rfl, rfl, rfl, rfl, hlj, hj, hk, ht, hrow, hba, hB⟩ := hrel
            by_cases hjl : j < 40
            · have hji : (j : Int) < 40 := by omega
              obtain ⟨k2, h5⟩ : ∃ k2 : Nat, ((k : Int) * 31 + 7 * (j : Int) + 11) % 100003 = k2 := ⟨(k * 31 + 7 * j + 11) % 100003, by omega⟩
              have b5 : k2 ≤ 100002 := by omega
              obtain ⟨r4, h4⟩ : ∃ r4 : Nat, (k : Int) % 4 = r4 := ⟨k % 4, by omega⟩
              have b4 : r4 ≤ 3 := by omega
              have hHX := Lib.hid (And.intro hrow (And.intro hba (And.intro hB hlj)))
              obtain ⟨i1, hi1, hy0, hy1, hy2⟩ := info_parts info_sa
              obtain ⟨q0, hq0⟩ : ∃ q0 : Nat, (k : Int) % 13 / 11 = q0 := ⟨k % 13 / 11, by omega⟩
              obtain ⟨q1, hq1⟩ : ∃ q1 : Nat, (k : Int) / 4 % 7 = q1 := ⟨k / 4 % 7, by omega⟩
              obtain ⟨q2, hq2⟩ : ∃ q2 : Nat, (k : Int) / 28 = q2 := ⟨k / 28, by omega⟩
              obtain ⟨q3, hq3⟩ : ∃ q3 : Nat, (k : Int) % 2060 = q3 := ⟨k % 2060, by omega⟩
              have c3 : q3 < 2060 := by omega
              obtain ⟨q4, hq4⟩ : ∃ q4 : Nat, (q1 : Int) % (5 + (q0 : Int)) = q4 := ⟨((q1 : Int) % (5 + (q0 : Int))).toNat, by have := Int.emod_nonneg (q1 : Int) (show (5 : Int) + (q0 : Int) ≠ 0 by omega); omega⟩
              have c4 : q4 < 7 := by
                have h1 : (q1 : Int) % (5 + (q0 : Int)) < 5 + (q0 : Int) := Int.emod_lt_of_pos _ (by omega)
                omega
              obtain ⟨q5, hq5⟩ : ∃ q5 : Nat, (q2 : Int) % (2 + (m : Int)) = q5 := ⟨((q2 : Int) % (2 + (m : Int))).toNat, by have := Int.emod_nonneg (q2 : Int) (show (2 : Int) + (m : Int) ≠ 0 by omega); omega⟩
              have c5 : q5 < 6 := by
                have h1 : (q2 : Int) % (2 + (m : Int)) < 2 + (m : Int) := Int.emod_lt_of_pos _ (by omega)
                omega
              have hne0 : (5 : Int) + (q0 : Int) ≠ 0 := by omega
              have hne1 : (2 : Int) + (m : Int) ≠ 0 := by omega
              have e0 : IntKind.i64.wrap (((k : Int).tmod 13).tdiv 11) = (q0 : Int) := by
                rw [Int.tmod_eq_emod_of_nonneg (by omega), Int.tdiv_eq_ediv_of_nonneg (by omega), hq0]
                exact Go.IntWalk.i64_in _ (by omega)
              have e1 : IntKind.i64.wrap (5 + (q0 : Int)) = 5 + (q0 : Int) := Go.IntWalk.i64_in _ (by omega)
              have e2 : (IntKind.i64.wrap ((k : Int) / 4)).tmod 7 = (q1 : Int) := by
                rw [Go.IntWalk.i64_in _ (by omega), Int.tmod_eq_emod_of_nonneg (by omega), hq1]
              have e3 : ((q1 : Int)).tmod (5 + (q0 : Int)) = (q4 : Int) := by
                rw [Int.tmod_eq_emod_of_nonneg (by omega), hq4]
              have e4 : IntKind.i64.wrap ((k : Int) / 28) = (q2 : Int) := by
                rw [Go.IntWalk.i64_in _ (by omega), hq2]
              have e5 : (n : Int).tmod 4 = (m : Int) := by
                rw [Int.tmod_eq_emod_of_nonneg (by omega), hm]
              have e6 : IntKind.i64.wrap (2 + (m : Int)) = 2 + (m : Int) := Go.IntWalk.i64_in _ (by omega)
              have e7 : ((q2 : Int)).tmod (2 + (m : Int)) = (q5 : Int) := by
                rw [Int.tmod_eq_emod_of_nonneg (by omega), hq5]
              have e8 : (k : Int).tmod 2060 = (q3 : Int) := by
                rw [Int.tmod_eq_emod_of_nonneg (by omega), hq3]
              have HR3 : Hid (∀ z, Below wr.heap.size wr z → z.ownsRow 0 36 6 (.slice aa j ac) j (acCells la2)) := Lib.hid fun z hz => own_only (own_lower hHX.out.1 (Nat.zero_le _)) (Below.only hz (fun _ => False)) (fun _ _ h => h)
              have HBL : Hid (∀ o, Below wr.heap.size wr (wr.alloc o).drew) := Lib.hid fun o => ((Below.refl wr.heap.size wr).alloc (Nat.le_refl _) o).drew
              have e9 : IntKind.i64.wrap (q2 : Int) = (q2 : Int) := Go.IntWalk.i64_in _ (by omega)
              have e10 : IntKind.u64.wrap (j : Int) = (j : Int) := Go.IntWalk.u64_in _ (by omega)
              go_wp2_with fail
              go_region_law (
                   refine step_append_row rfl (.tmp 54) (.tmp 76) 23 rfl 36 i1 _ 6 64 Try.underlying23 hi1 hy0 hy1 hy2 rfl (by decide) (.slice aa j ac) j (acCells la2) (by simp [go_sem]) (HR3.out _ (HBL.out _)) ⟨wr.heap.size, 0, none⟩ 1 1 [.int .i64 q4, .int .i64 q5, .int .u64 (j : Nat), .int .i64 q3, .slice none 0 0, .int .u64 (t + r4 : Nat)] (by simp [go_sem]) rfl (six_new wr _ rfl _ _ _ _ _ _ _) (fun u hu => by simp at hu; rcases hu with rfl | rfl | rfl | rfl | rfl | rfl <;> rfl) (by unfold maxLen; omega) (by omega) ?_
                   intro v' w' hown' hg' hb'
                   obtain ⟨va, vc, rfl⟩ := own_shape hown'
                   have HR := Lib.hid (ka_next (k2 := k2) (t2 := t + r4) (x := ⟨q4, q5, j, q3, .slice none 0 0, [], t + r4⟩) hHX.out.1 hHX.out.2.1 hHX.out.2.2.1 hHX.out.2.2.2 hjl b5 (by omega) ⟨rfl, rfl, ⟨by show _ ≤ (q4 : Int) ∧ (q4 : Int) ≤ _; omega, by show _ ≤ (q5 : Int) ∧ (q5 : Int) ≤ _; omega, by show j < _; omega, by show _ ≤ (q3 : Int) ∧ (q3 : Int) ≤ _; omega, by show t + r4 < _; omega⟩⟩ (HBL.out _) hown' hg' hb')
                   clear hown' hg' hb')
              all_goals
                clear HBL HR3 hHX
                go_wp2_with fail
                go_roundw
                case rel => first | exact HR.out | (rw [h5]; exact HR.out) | ((repeat apply Exists.intro); exact ⟨HR.out, rfl⟩)
                case measure => simp [intOf]; omega
            · obtain rfl : j = 40 := by omega
              have hcap : 40 ≤ ac := by
                rcases hrow.2 with ⟨_, h0⟩ | ⟨g', cp', cur', hv', _, _, hnc, _⟩
                · omega
                · injection hv' with _ _ e
                  omega
              have HI0 := Lib.hid (acs_of (by rw [hlj]; exact hrow) hba)
              have HC0 := Lib.hid (HC.out.1.below hB)
              have HB0 := Lib.hid (HC.out.2.trans (hB.mono HC.out.2.size))
              have HLJ := Lib.hid hlj
              obtain ⟨t5, ht5⟩ : ∃ t5 : Nat, (n : Int) % 5 = t5 := ⟨n % 5, by omega⟩
              have h5 : t5 < 18446744073709551616 := by omega
              obtain ⟨k8, hk8⟩ : ∃ k8 : Nat, (k : Int) % 256 = k8 := ⟨k % 256, by omega⟩
              have h8 : k8 < 256 := by omega
              clear hrow hba hB hlj HB HC
              go_wp2_with fail
              refine (plays_any h5 l la2 _ _ wr HC0.out HI0.out).mono ?_
              rintro e w1 ⟨rfl, hB1⟩
              have HI1 := Lib.hid (HI0.out.below hB1)
              have HC1 := Lib.hid (HC0.out.below hB1)
              have HB1 := Lib.hid (HB0.out.trans (hB1.mono HB0.out.size))
              clear hB1 HI0 HC0 HB0
              go_wp2_with fail
              refine (bounds_any l la2 _ _ w1 HC1.out HI1.out).mono ?_
              rintro e w2 ⟨rfl, hB2⟩
              have HI2 := Lib.hid (HI1.out.below hB2)
              have HC2 := Lib.hid (HC1.out.below hB2)
              have HB2 := Lib.hid (HB1.out.trans (hB2.mono HB1.out.size))
              clear hB2 HI1 HC1 HB1
              go_wp2_with fail
              refine (early_any l (la2.take 9) k8 h8 _ _ w2 HC2.out (HI2.out.take 9 (by rw [HLJ.out]; omega) ac)).mono ?_
              rintro e w3 ⟨rfl, hB3⟩
              have HB3 := Lib.hid (HB2.out.trans (hB3.mono HB2.out.size))
              clear hB3 HI2 HC2 HB2
              go_wp2_with fail
              go_roundw
              case rel => exact ⟨k, n + 1, rfl, by first | rfl | go_num, by omega, hk, HB3.out⟩
              case measure => simp [intOf]; omega
    · have hni : ¬ (n : Int) < 80 := by omega
      have HL := Lib.hid (last_world wr)
      have HB0 := Lib.hid (HB.out.trans (HL.out.2.2.mono HB.out.size))
      obtain ⟨wo, rfl⟩ : ∃ wo : World, wo = wr := ⟨_, rfl⟩
      clear HB
      go_wp2_with fail
      go_loopw [10] (KdRel w wo.heap.size) (fun i _ => 5 - (intOf i).toNat)
      case atStart => exact ⟨0, rfl, Nat.zero_le _, HB0.out, HL.out.1, HL.out.2.1⟩
      case round =>
        clear HB0 HL
        generalize wo.heap.size = g at *
        obtain ⟨i, rfl, hi5, hB, hC, hA⟩ := hrel
        by_cases hil : i < 5
        · have hii : (i : Int) < 5 := by omega
          obtain ⟨⟨rt, bu, it, sz⟩, hx⟩ : ∃ x, oddL[i]? = some x := ⟨_, List.getElem?_eq_getElem (by simpa [oddL] using hil)⟩
          have HQ : Hid (∀ w', Below wr.heap.size wr w' → (w'.cell? ⟨g, 16, none⟩ = some (.int .u64 18446744073709551615) ∧ w'.cell? ⟨g, 17, none⟩ = some (.int .u64 18446744073709551615) ∧ w'.cell? ⟨g, 18, none⟩ = some (.int .i64 65536) ∧ w'.cell? ⟨g, 19, none⟩ = some (.int .i64 9223372036854775807)) ∧ w'.cell? ⟨g, i * 4, none⟩ = some (.int .u64 rt) ∧ w'.cell? ⟨g, i * 4 + 1, none⟩ = some (.int .u64 bu) ∧ w'.cell? ⟨g, i * 4 + 2, none⟩ = some (.int .i64 it) ∧ w'.cell? ⟨g, i * 4 + 3, none⟩ = some (.int .i64 sz)) := Lib.hid fun w' hB' =>
            ⟨(hC.below hB').cells (i := 4) rfl, (hC.below hB').cells hx⟩
          have HP1 : Hid (∀ w', Below wr.heap.size wr w' → Calls Try.prog 5 #[.int .u64 18446744073709551613, .slice (some ⟨g, i * 4, none⟩) 1 (5 - i), .slice (some ⟨g + 1, 0, none⟩) 9 9] w' fun e w'' => e = .returned (.bool true) ∧ Below wr.heap.size wr w'') := Lib.hid fun w' hB' =>
            (plays_any (t := 18446744073709551613) (by decide) _ allA _ _ w' ((hC.below hB').sub hx (5 - i) (by omega)) (hA.below hB')).mono fun e w'' h => ⟨h.1, hB'.trans (h.2.mono hB'.size)⟩
          have HP2 : Hid (∀ w' a, Below wr.heap.size wr w' → w'.heap[a]? = some (.cells #[.int .u64 18446744073709551615, .int .u64 18446744073709551615, .int .i64 65536, .int .i64 9223372036854775807, .int .u64 rt, .int .u64 bu, .int .i64 it, .int .i64 sz] 46 (0, 0)) → Calls Try.prog 5 #[.int .u64 0, .slice (some ⟨a, 0, none⟩) 2 2, .slice (some ⟨g + 1, 0, none⟩) 9 9] w' fun e w'' => e = .returned (.bool true) ∧ Below wr.heap.size wr w'') := Lib.hid fun w' a hB' ha =>
            (plays_any (t := 0) (by decide) _ allA _ _ w' (cls_blk ha [⟨18446744073709551615, 18446744073709551615, 65536, 9223372036854775807⟩, ⟨rt, bu, it, sz⟩] rfl (by simp) (fun y hy => by
              simp at hy
              rcases hy with rfl | rfl
              · exact odd_ok _ (by simp [oddL])
              · exact odd_ok _ (List.mem_of_getElem? hx))) (hA.below hB')).mono fun e w'' h => ⟨h.1, hB'.trans (h.2.mono hB'.size)⟩
          have HZ := Lib.hid (And.intro hB (And.intro hC hA))
          have s0 : (0 : Int) ≤ (i : Int) := by omega
          have s1 : IntKind.i64.wrap ((i : Int) + 1) = (i : Int) + 1 := Go.IntWalk.i64_in _ (by omega)
          have s2 : (i : Int) ≤ (i : Int) + 1 := by omega
          have s3 : (i : Int) + 1 ≤ 5 := by omega
          have s4 : (0 : Int) ≤ (i : Int) + 1 := by omega
          have s5 : ((i : Int) + 1).toNat = i + 1 := by omega
          have s6 : i + 1 ≤ 5 := by omega
          have s7 : i + 1 - i = 1 := by omega
          have s8 : ¬ (5 = i) := by omega
          obtain ⟨⟨y1, y2, y3, y4⟩, y5, y6, y7, y8⟩ := HQ.out wr (Below.refl _ _)
          clear hB hC hA
          go_wp2_with fail
          go_region_held3 (fun w' => (w'.cell? ⟨g, 16, none⟩ = some (.int .u64 18446744073709551615) ∧ w'.cell? ⟨g, 17, none⟩ = some (.int .u64 18446744073709551615) ∧ w'.cell? ⟨g, 18, none⟩ = some (.int .i64 65536) ∧ w'.cell? ⟨g, 19, none⟩ = some (.int .i64 9223372036854775807)) ∧ w'.cell? ⟨g, i * 4, none⟩ = some (.int .u64 rt) ∧ w'.cell? ⟨g, i * 4 + 1, none⟩ = some (.int .u64 bu) ∧ w'.cell? ⟨g, i * 4 + 2, none⟩ = some (.int .i64 it) ∧ w'.cell? ⟨g, i * 4 + 3, none⟩ = some (.int .i64 sz)) (go_keep) (first
            | (go_at_call 5; with_reducible refine Calls.mono (HP1.out _ ((Below.refl wr.heap.size wr).drew)) ?_; rintro e w5 ⟨rfl, hT1⟩
               obtain ⟨⟨z1, z2, z3, z4⟩, z5, z6, z7, z8⟩ := HQ.out w5 hT1
               have HT1 := Lib.hid hT1; clear hT1)
            | (go_at_call 5; with_reducible refine Calls.mono (HP2.out _ _ (HT1.out.alloc HT1.out.size _) (alloc_block_new _ _)) ?_; rintro e w6 ⟨rfl, hT2⟩
               obtain ⟨⟨x1, x2, x3, x4⟩, x5, x6, x7, x8⟩ := HQ.out w6 hT2
               have HT2 := Lib.hid hT2; clear hT2))
          all_goals
            clear HQ HP1 HP2
            go_wp2_with fail
            go_roundw
            case rel =>
              have HR : Hid (KdRel w g (.int .i64 (i + 1 : Nat)) w6) := Lib.hid ⟨i + 1, rfl, by omega, HZ.out.1.trans (HT2.out.mono HZ.out.1.size), HZ.out.2.1.below HT2.out, HZ.out.2.2.below HT2.out⟩
              clear HT2 HT1 HZ
              first | exact HR.out | ((repeat apply Exists.intro); exact ⟨HR.out, rfl⟩)
            case measure => simp [intOf]; omega
        · have hii : ¬ (i : Int) < 5 := by omega
          obtain ⟨C, hCl, hmk⟩ := make_cls
          have HCl := Lib.hid hCl
          have HA0 := Lib.hid hA
          have HB0 := Lib.hid hB
          clear hCl hA hB hC
          go_wp2_with fail
          refine (plays_any (t := 0) (by decide) [] [] _ _ wr ⟨⟨none, 0, rfl, Nat.le_refl _, fun h => absurd h (by simp)⟩, fun x h => by simp at h⟩ ⟨none, 0, rfl, fun h => absurd h (by simp)⟩).mono ?_
          rintro e w1 ⟨rfl, hB1⟩
          have HA1 := Lib.hid (HA0.out.below hB1)
          have HB1 := Lib.hid (HB0.out.trans (hB1.mono HB0.out.size))
          clear hB1 HA0 HB0
          go_wp2_with fail
          have hC9 : Cls (w1.alloc (.cells C 46)) (.slice (some ⟨w1.heap.size, 0, none⟩) 9 9) (List.replicate 9 ⟨0, 0, 0, 0⟩) := cls_blk (alloc_block_new w1 (.cells C 46)) (List.replicate 9 ⟨0, 0, 0, 0⟩) HCl.out (by decide) (fun y hy => by
            rw [List.eq_of_mem_replicate hy]
            exact ⟨by decide, by decide, by decide, by decide⟩)
          refine (plays_any (t := 0) (by decide) (List.replicate 9 ⟨0, 0, 0, 0⟩) [] _ _ _ hC9 ⟨none, 0, rfl, fun h => absurd h (by simp)⟩).mono ?_
          rintro e w2 ⟨rfl, hB2⟩
          have hBa : Below w1.heap.size w1 (w1.alloc (.cells C 46)) := (Below.refl _ _).alloc (Nat.le_refl _) _
          have hB12 := hBa.trans (hB2.mono hBa.size)
          have HA2 := Lib.hid (HA1.out.below hB12)
          have HB2 := Lib.hid (HB1.out.trans (hB12.mono HB1.out.size))
          obtain ⟨ao, cp, ev, hx⟩ := HA2.out
          injection ev with ev1 ev2 ev3
          subst ev1
          obtain ⟨b, o, eb, hb, hj⟩ := hx (by decide)
          injection eb with eb
          injection eb with eb1 eb2
          subst eb1 eb2
          have hA0 := hj 0 (bare 0 0 2048 0) rfl
          have a0 : w2.cell? ⟨g + 1, 0, none⟩ = some (.int .i64 0) := hA0.c0
          have a1 : w2.cell? ⟨g + 1, 1, none⟩ = some (.int .i64 0) := hA0.c1
          have a2 : w2.cell? ⟨g + 1, 2, none⟩ = some (.int .u64 0) := hA0.c2
          have a3 : w2.cell? ⟨g + 1, 3, none⟩ = some (.int .i64 2048) := hA0.c3
          have a4 : w2.cell? ⟨g + 1, 4, none⟩ = some (.slice none 0 0) := hA0.c4
          have a5 : w2.cell? ⟨g + 1, 5, none⟩ = some (.int .u64 0) := hA0.c5
          clear ev2 ev3 hC9 hB2 hBa hB12 HA1 HB1 hx hj hb hA0 HA2
          go_wp2_with fail
          have h4 := none_any (bare 0 0 2048 0) w2 (holds_nil _) ⟨by decide, by decide, by decide, by decide, by decide⟩
          refine Calls.mono h4 ?_
          rintro e w3 ⟨rfl, hB3⟩
          have HB3 := Lib.hid (HB2.out.trans (hB3.mono HB2.out.size))
          clear h4 hB3 HB2 a0 a1 a2 a3 a4 a5
          go_wp2_with fail
          refine (works_any w3).mono ?_
          rintro e w4 ⟨rfl, hB4⟩
          go_wp2_with fail
          go_ret
          exact ⟨rfl, HB3.out.trans (hB4.mono HB3.out.size)⟩
end Go.Proofs.Ythipfcmjpgbemaa
