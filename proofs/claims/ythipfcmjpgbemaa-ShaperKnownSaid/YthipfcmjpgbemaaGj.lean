/- Nothing gets great: plain laws. -/
import Derived.Test.YthipfcmjpgbemaaGi
import Derived.Test.YthipfcmjpgbemaaGc
import Derived.Lib.SmallJoins
namespace Go.Proofs.Ythipfcmjpgbemaa
open Go.RowKit

theorem Sh.Ok.mono {S : Sh} {n m : Nat} (h : S.Ok n) (hnm : n ≤ m) (hm : m ≤ 1000000) : S.Ok m :=
  ⟨fun L hL => let k := h.ln L hL; ⟨Nat.le_trans k.off hnm, Nat.le_trans k.drp hnm, Nat.le_trans k.out hnm, k.byt, Nat.le_trans k.drops hnm, k.size, k.B⟩, hm, h.tick, h.len⟩
theorem Sh.Ok.set {S : Sh} {n c : Nat} {L : Ln} (h : S.Ok n) (hL : L.Ok n) : (Sh.mk S.tick (S.ls.set c L)).Ok n :=
  ⟨fun M hM => by
    rcases List.mem_or_eq_of_mem_set hM with h1 | rfl
    · exact h.ln M h1
    · exact hL, h.few, h.tick, by show (S.ls.set c L).length ≤ 8; rw [List.length_set]; exact h.len⟩
theorem pushA_L (Q : QS) (no : Nat) (sz : Int) (ds : List Nat) (h0 : 0 ≤ sz) : (pushA Q no sz ds).L = if roomB Q sz = true then Q.L ++ [⟨no, sz.toNat, ds⟩] else Q.L := by
  obtain ⟨m, rfl⟩ : ∃ m : Nat, sz = m := ⟨sz.toNat, by omega⟩
  unfold pushA
  rw [if_neg (by omega)]
  unfold pushR
  rw [Int.toNat_natCast]
  split <;> rfl
theorem offL_ok {L : Ln} {n : Nat} (h : L.Ok n) (no : Nat) {sz : Int} (ds : List Nat) (h0 : 0 ≤ sz) (h1 : sz ≤ 2048) : (offL L no sz ds).Ok (n + 1) := by
  have ho := h.off
  have hd := h.drp
  have hu := h.out
  have hp := h.drops
  have hL := pushA_L L.Q no sz ds h0
  refine ⟨by show L.off + 1 ≤ _; omega, ?_, ?_, h.byt, ?_, fun x hx => ?_, h.B⟩
  · show L.drp + _ ≤ _
    split <;> omega
  · show L.out + (pushA L.Q no sz ds).L.length ≤ _
    rw [hL]
    split
    · rw [List.length_append]; simp; omega
    · omega
  · show (pushA L.Q no sz ds).drops ≤ _
    unfold pushA
    split
    · omega
    · have := (pushR_bounds L.Q ⟨no, sz.toNat, ds⟩).2.2
      omega
  · have hx : x ∈ (pushA L.Q no sz ds).L := hx
    rw [hL] at hx
    split at hx
    · rcases List.mem_append.1 hx with h2 | h2
      · exact h.size x h2
      · simp at h2
        rw [h2]
        show sz.toNat ≤ 2048
        omega
    · exact h.size x hx
theorem Sh.Ok.offer {S : Sh} {n c : Nat} {L : Ln} (h : S.Ok n) (hc : S.ls[c]? = some L) (no : Nat) {sz : Int} (ds : List Nat) (h0 : 0 ≤ sz) (h1 : sz ≤ 2048) (hn : n + 1 ≤ 1000000) :
    (Sh.mk S.tick (S.ls.set c (offL L no sz ds))).Ok (n + 1) :=
  (h.mono (Nat.le_succ n) hn).set (offL_ok (h.ln L (List.mem_of_getElem? hc)) no ds h0 h1)
theorem relN_ok {n t : Nat} (ht : t < 18446744073709551616) : ∀ (m : Nat) (S : Sh) (o : List OutR), S.Ok n → (relN m t S o).1.Ok n
  | 0, S, o, h => ⟨h.ln, h.few, ht, h.len⟩
  | m + 1, S, o, h => by
    unfold relN
    cases hs : S.step t with
    | none => exact ⟨h.ln, h.few, ht, h.len⟩
    | some r =>
      obtain ⟨S', x⟩ := r
      exact relN_ok ht m S' _ (step_ok h hs)
theorem Sh.Ok.rel {S : Sh} {n t : Nat} (h : S.Ok n) (ht : t < 18446744073709551616) : (S.rel t).1.Ok n :=
  relN_ok (by have := h.tick; omega) _ S [] h
theorem clr_ok {L : Ln} {n : Nat} (h : L.Ok n) : (clr L).Ok n :=
  ⟨h.off, h.drp, by have := h.out; show L.out + 0 ≤ n; omega, h.byt, h.drops, fun x hx => (by cases hx), h.B⟩
theorem Sh.Ok.clear {S : Sh} {n : Nat} (h : S.Ok n) : (Sh.mk S.tick (S.ls.map clr)).Ok n :=
  ⟨fun M hM => by
    obtain ⟨L, hL, rfl⟩ := List.mem_map.1 hM
    exact clr_ok (h.ln L hL), h.few, h.tick, by show (S.ls.map clr).length ≤ 8; rw [List.length_map]; exact h.len⟩
theorem newLn_ok {c : Cl} (h : c.Ok) {t : Nat} (ht : t < 18446744073709551616) : (newLn c t).Ok 0 :=
  ⟨Nat.le_refl _, Nat.le_refl _, Nat.le_refl _, Nat.le_refl _, Nat.le_refl _, fun x hx => (by cases hx), ⟨h.rate, h.burst, ht, Nat.le_refl _⟩⟩
theorem newSh_ok {l : List Cl} (h : ∀ x ∈ l, x.Ok) (h8 : l.length ≤ 8) {t : Nat} (ht : t < 18446744073709551616) : (Sh.mk t (l.map (newLn · t))).Ok 0 :=
  ⟨fun M hM => by
    obtain ⟨L, hL, rfl⟩ := List.mem_map.1 hM
    exact newLn_ok (h L hL) ht, by omega, ht, by show (l.map (newLn · t)).length ≤ 8; rw [List.length_map]; exact h8⟩
end Go.Proofs.Ythipfcmjpgbemaa

/- The short calls of each statement; few. -/
namespace Go.Proofs.Ythipfcmjpgbemaa
open Go.RowKit

def c1 : Cl := ⟨1, 2048, 9, 9000⟩
def c2 : Cl := ⟨2, 2048, 9, 9000⟩
def S0 : Sh := ⟨5, [newLn c1 5, newLn c2 5]⟩
def S1 : Sh := ⟨5, [newLn c1 5, offL (newLn c2 5) 0 2048 []]⟩
def S2 : Sh := ⟨5, [offL (newLn c1 5) 0 2000 [], offL (newLn c2 5) 0 2048 []]⟩
def S3 : Sh := ⟨5, [offL (newLn c1 5) 0 2000 [], offL (offL (newLn c2 5) 0 2048 []) 0 3 []]⟩
theorem c_ok : ∀ x ∈ [c1, c2], x.Ok := fun x hx => by
  simp at hx
  rcases hx with rfl | rfl <;> exact ⟨by decide, by decide, by decide, by decide⟩
theorem S0_mem : newLn c2 5 ∈ S0.ls := List.mem_cons_of_mem _ (List.mem_cons_self ..)
theorem S0_ok : S0.Ok 0 := newSh_ok (l := [c1, c2]) c_ok (by decide) (by decide)
theorem S1_ok : S1.Ok 1 := S0_ok.offer (c := 1) (L := newLn c2 5) rfl 0 (sz := 2048) [] (by decide) (by decide) (by decide)
theorem S2_ok : S2.Ok 2 := S1_ok.offer (c := 0) (L := newLn c1 5) rfl 0 (sz := 2000) [] (by decide) (by decide) (by decide)
theorem S3_ok : S3.Ok 3 := S2_ok.offer (c := 1) (L := offL (newLn c2 5) 0 2048 []) rfl 0 (sz := 3) [] (by decide) (by decide) (by decide)
def works1 : List OutR := [⟨5, 0, ⟨0, 2000, []⟩⟩, ⟨5, 1, ⟨0, 2048, []⟩⟩]
theorem rel_one : (S3.rel 5).2 = works1 := by kernel_rfl
theorem next_one : (S3.rel 5).1.next = ⟨7, 1, true⟩ := by kernel_rfl
theorem rel_two : ((S3.rel 5).1.rel 9).2 = [⟨7, 1, ⟨0, 3, []⟩⟩] := by kernel_rfl
theorem out_row {base : Nat} {w : World} {F : Nat → Prop} {v : Value} {xs : List Value} {L : List OutR} (h : NewO base w F v xs L) (h0 : 0 < L.length) :
    ∃ g cap, v = .slice (some ⟨g, 0, none⟩) L.length cap ∧ base ≤ g ∧ g < w.heap.size ∧ ∀ i o, L[i]? = some o → w.cell? ⟨g, i * 5, none⟩ = some (.int .u64 o.at') ∧ w.cell? ⟨g, i * 5 + 1, none⟩ = some (.int .i64 (o.cls : Nat)) := by
  rcases h.row.2 with ⟨_, he⟩ | ⟨g, cap, cur, hv, hg, hh, hnc, hcm, hcs, hx⟩
  · omega
  · refine ⟨g, cap, hv, hg, lt_of_obj hh, fun i o hi => ?_⟩
    obtain ⟨h1, h2, -⟩ := h.cs i o hi
    have hl := (List.getElem?_eq_some_iff.1 hi).1
    have ha : ∀ j u, xs[j]? = some u → w.cell? ⟨g, j, none⟩ = some u := fun j u hj => by
      refine (cell_of_block hh j).trans ?_
      rw [← hx] at hj
      have hlt : j < L.length * 5 := by
        have := (List.getElem?_eq_some_iff.1 hj).1
        rw [List.length_take] at this
        omega
      rw [List.getElem?_take_of_lt hlt] at hj
      simpa using hj
    exact ⟨ha _ _ h1, ha _ _ h2⟩
theorem class_two (w : World) : Cls (w.alloc (.cells #[.int .u64 1, .int .u64 2048, .int .i64 9, .int .i64 9000, .int .u64 2, .int .u64 2048, .int .i64 9, .int .i64 9000] 46)) (.slice (some ⟨w.heap.size, 0, none⟩) 2 2) [c1, c2] := by
  have hg := alloc_block_new w (.cells #[.int .u64 1, .int .u64 2048, .int .i64 9, .int .i64 9000, .int .u64 2, .int .u64 2048, .int .i64 9, .int .i64 9000] 46)
  refine ⟨⟨_, 2, rfl, Nat.le_refl _, fun _ => ⟨_, 0, rfl, lt_of_obj hg, fun j x hj => ?_⟩⟩, c_ok⟩
  match j, hj with
  | 0, hj => simp at hj; subst hj; exact ⟨cell_of_block hg 0, cell_of_block hg 1, cell_of_block hg 2, cell_of_block hg 3⟩
  | 1, hj => simp at hj; subst hj; exact ⟨cell_of_block hg 4, cell_of_block hg 5, cell_of_block hg 6, cell_of_block hg 7⟩

set_option maxHeartbeats 1000000 in
set_option maxRecDepth 100000 in
theorem works_any (w : World) : Calls Try.prog 9 #[] w fun e w' => e = .returned (.bool true) ∧ Below w.heap.size w w' := by
  have HC := Lib.hid (class_two w)
  have HA := Lib.hid ((Below.refl w.heap.size w).alloc (Nat.le_refl _) (.cells #[.int .u64 1, .int .u64 2048, .int .i64 9, .int .i64 9000, .int .u64 2, .int .u64 2048, .int .i64 9, .int .i64 9000] 46))
  go_enter Try.func9, Try.ntmps9
  go_wp2_with fail
  refine (new_walk (t := 5) HC.out (by decide) (by decide) (by decide)).mono ?_
  rintro e w1 h
  rcases h with ⟨h, -, -⟩ | ⟨-, p, O, v, ps, rfl, hM0⟩
  · exact absurd h (by decide)
  have HM0 : Hid (MineS _ w1 p O v ps S0) := Lib.hid hM0
  clear hM0
  unfold ptr
  go_wp2_with fail
  refine (Offer_ok 0 2048 (.slice none 0 0) [] HM0.out.is (c := 1) (L := newLn c2 5) (n := 0) rfl (S0_ok.ln _ S0_mem) (by decide) (by decide) (by decide) (holds_nil _) (fun h => absurd h (by decide)) (by decide)).mono ?_
  rintro e w2 ⟨rfl, O1, hI, hG⟩
  have HM1 : Hid (MineS _ w2 p O1 v ps S1) := Lib.hid (HM0.out.step hI hG)
  clear hI hG
  rw [show pushC (newLn c2 5).Q 2048 = 0 by decide]
  go_wp2_with fail
  refine (Offer_ok 0 2000 (.slice none 0 0) [] HM1.out.is (c := 0) (L := newLn c1 5) (n := 1) rfl (S1_ok.ln _ (List.mem_cons_self ..)) (by decide) (by decide) (by decide) (holds_nil _) (fun h => absurd h (by decide)) (by decide)).mono ?_
  rintro e w3 ⟨rfl, O2, hI, hG⟩
  have HM2 : Hid (MineS _ w3 p O2 v ps S2) := Lib.hid (HM1.out.step hI hG)
  clear hI hG
  rw [show pushC (newLn c1 5).Q 2000 = 0 by decide]
  go_wp2_with fail
  refine (Offer_ok 0 3 (.slice none 0 0) [] HM2.out.is (c := 1) (L := offL (newLn c2 5) 0 2048 []) (n := 2) rfl (S2_ok.ln _ (List.mem_cons_of_mem _ (List.mem_cons_self ..))) (by decide) (by decide) (by decide) (holds_nil _) (fun h => absurd h (by decide)) (by decide)).mono ?_
  rintro e w4 ⟨rfl, O3, hI, hG⟩
  have HM3 : Hid (MineS _ w4 p O3 v ps S3) := Lib.hid (HM2.out.step hI hG)
  clear hI hG
  rw [show pushC (offL (newLn c2 5) 0 2048 []).Q 3 = 0 by decide]
  go_wp2_with fail
  refine (Release_is (t := 5) HM3.out.is S3_ok (by decide)).mono ?_
  rintro e w5 ⟨O4, F, vo, xs, rfl, hR⟩
  have HM4 := Lib.hid (HM3.out.step hR.is hR.grow)
  have hl : (S3.rel 5).2 = works1 := rel_one
  rw [hl] at hR
  have HR := Lib.hid hR
  obtain ⟨g, cap, rfl, hg, hgl, hc⟩ := out_row hR.new (by decide)
  obtain ⟨a0, a1⟩ := hc 0 _ rfl
  obtain ⟨a5, a6⟩ := hc 1 _ rfl
  have h4 := S3_ok.rel (t := 5) (by decide)
  have HN := Lib.hid next_one
  have HL2 := Lib.hid rel_two
  clear hR hl hc
  generalize (S3.rel 5).1 = S4 at *
  rw [show works1.length = 2 from rfl]
  go_wp2_with fail
  refine (Next_is HM4.out.is h4).mono ?_
  rintro e w6 ⟨rfl, hB6⟩
  rw [HN.out]
  have HM6 := Lib.hid (HM4.out.below hB6)
  have h6 := HR.out.new.below hB6
  have HR6 := Lib.hid (And.intro h6 (And.intro HR.out.df HR.out.dv))
  clear HM4 h6 HR a0 a1 a5 a6 hB6
  go_wp2_with fail
  refine (Release_is (t := 9) HM6.out.is h4 (by decide)).mono ?_
  rintro e w7 ⟨O5, F2, vo2, xs2, rfl, hR⟩
  have HM7 := Lib.hid (HM6.out.step hR.is hR.grow)
  have h7 := HR6.out.1.keep hR.grow.only (fun k hk e => e (HR6.out.2.1 k hk)) (fun k hk e => e (HR6.out.2.2 k hk))
  rw [HL2.out] at hR
  obtain ⟨g', cap', e', hg', hgl', hc⟩ := out_row h7 (by decide)
  injection e' with e1 e2 e3
  injection e1 with e1
  injection e1 with e1
  subst e1
  clear e2 e3
  obtain ⟨a0, a1⟩ := hc 0 _ rfl
  obtain ⟨a5, a6⟩ := hc 1 _ rfl
  obtain ⟨g2, cap2, rfl, hg2, hgl2, hc2⟩ := out_row hR.new (by decide)
  obtain ⟨b0, b1⟩ := hc2 0 _ rfl
  have HB := Lib.hid (HA.out.trans (HM7.out.bel.mono HA.out.size))
  clear hR h7 hc hc2 h4 HR6 HL2 HN HM6 HM7
  rw [show [OutR.mk 7 1 ⟨0, 3, []⟩].length = 1 from rfl]
  go_wp2_with fail
  go_ret
  exact ⟨rfl, HB.out⟩
end Go.Proofs.Ythipfcmjpgbemaa

/- The acts and the classes that are handed in, opened; few, Pick, walked. -/
namespace Go.Proofs.Ythipfcmjpgbemaa
open Go.ChangeShapes Go.WideShapes Go.Deep Go.RowKit Go.Joins

/-- A call: its kind, its class, its item, its tick. -/
structure Ac where
  kind : Int
  cls : Int
  no : Nat
  size : Int
  dv : Value
  ds : List Nat
  tick : Nat
structure Ac.Wf (A : Ac) : Prop where
  kind : -9223372036854775808 ≤ A.kind ∧ A.kind ≤ 9223372036854775807
  cls : -9223372036854775808 ≤ A.cls ∧ A.cls ≤ 9223372036854775807
  no : A.no < 18446744073709551616
  size : -9223372036854775808 ≤ A.size ∧ A.size ≤ 9223372036854775807
  tick : A.tick < 18446744073709551616
def Ac.arr (A : Ac) : Array Value := #[.int .i64 A.kind, .int .i64 A.cls, .int .u64 A.no, .int .i64 A.size, A.dv, .int .u64 A.tick]

structure AcAt (w : World) (b o : Nat) (A : Ac) : Prop where
  c0 : w.cell? ⟨b, o, none⟩ = some (.int .i64 A.kind)
  c1 : w.cell? ⟨b, o + 1, none⟩ = some (.int .i64 A.cls)
  c2 : w.cell? ⟨b, o + 2, none⟩ = some (.int .u64 A.no)
  c3 : w.cell? ⟨b, o + 3, none⟩ = some (.int .i64 A.size)
  c4 : w.cell? ⟨b, o + 4, none⟩ = some A.dv
  c5 : w.cell? ⟨b, o + 5, none⟩ = some (.int .u64 A.tick)
  d : Holds8 w A.dv A.ds
  wf : A.Wf

/-- The calls that are handed in. -/
def IsAcs (w : World) (v : Value) (l : List Ac) : Prop :=
  ∃ ao cap, v = .slice ao l.length cap ∧ (0 < l.length → ∃ b o, ao = some ⟨b, o, none⟩ ∧ b < w.heap.size ∧ ∀ i A, l[i]? = some A → AcAt w b (o + i * 6) A)

theorem AcAt.below {w w' : World} {b o : Nat} {A : Ac} (h : AcAt w b o A) (hb : b < w.heap.size) (hB : Below w.heap.size w w') : AcAt w' b o A :=
  ⟨(hB.cell (p := ⟨b, o, none⟩) hb).trans h.c0, (hB.cell (p := ⟨b, o + 1, none⟩) hb).trans h.c1, (hB.cell (p := ⟨b, o + 2, none⟩) hb).trans h.c2, (hB.cell (p := ⟨b, o + 3, none⟩) hb).trans h.c3, (hB.cell (p := ⟨b, o + 4, none⟩) hb).trans h.c4, (hB.cell (p := ⟨b, o + 5, none⟩) hb).trans h.c5, h.d.below hB, h.wf⟩
theorem IsAcs.below {w w' : World} {v : Value} {l : List Ac} (h : IsAcs w v l) (hB : Below w.heap.size w w') : IsAcs w' v l := by
  obtain ⟨ao, cap, e, h⟩ := h
  refine ⟨ao, cap, e, fun h0 => ?_⟩
  obtain ⟨b, o, e, hb, hA⟩ := h h0
  exact ⟨b, o, e, Nat.lt_of_lt_of_le hb hB.size, fun i A hi => (hA i A hi).below hb hB⟩

section
variable {H : Type} {enc : TypeId × Value → H} {w : World} {base : Nat} {spare : Nat → Bool} {held : Bool}
theorem openAct1 {fuel : Nat} {x0 x1 x2 x3 x4 x5 : Value} {x : DataW H × List MemPlace} (h : DataW.trod enc Try.prog w base spare held fuel 36 [x0, x1, x2, x3, x4, x5] = some x) :
    ∃ A : Ac, (#[x0, x1, x2, x3, x4, x5] : Array Value) = A.arr ∧ Holds8 w A.dv A.ds ∧ A.Wf := by
  have e3 : Try.prog.cellsOf 34 = 3 := by kernel_rfl
  have e1 : Try.prog.cellsOf 3 = 1 := by kernel_rfl
  have e8 : Try.prog.cellsOf 30 = 1 := by kernel_rfl
  have es : Try.prog.cellsOf 32 = 1 := by kernel_rfl
  obtain ⟨y0, y1, y2, y3, n', _, _, t0, t1, tx, t5⟩ := trod_struct4 Try.underlying36 h
  simp only [e1, e3, e8] at t0 t1 tx t5
  obtain ⟨z0, z1, z2, n'', _, _, u1, u2, u3⟩ := trod_struct3 Try.underlying34 (by simpa using tx)
  simp only [e1, e8, es] at u1 u2 u3
  obtain ⟨d, h0, _, w0⟩ := DataW.trod_int Try.underlying3 (by simpa using t0)
  obtain ⟨c, h1, _, w1⟩ := DataW.trod_int Try.underlying3 (by simpa using t1)
  obtain ⟨k, h2, _, w2⟩ := DataW.trod_int Try.underlying30 (by simpa using u1)
  obtain ⟨s, h3, _, w3⟩ := DataW.trod_int Try.underlying3 (by simpa using u2)
  obtain ⟨ds, hd⟩ := open8 (v := x4) (by simpa using u3)
  obtain ⟨t, h5, _, w5⟩ := DataW.trod_int Try.underlying30 (by simpa using t5)
  simp only [List.cons.injEq, and_true] at h0 h1 h2 h3 h5
  have b0 : -9223372036854775808 ≤ d ∧ d ≤ 9223372036854775807 := by simpa [Lit.wf, IntKind.min, IntKind.max, IntKind.signed, IntKind.bits] using w0
  have b1 : -9223372036854775808 ≤ c ∧ c ≤ 9223372036854775807 := by simpa [Lit.wf, IntKind.min, IntKind.max, IntKind.signed, IntKind.bits] using w1
  have b2 : 0 ≤ k ∧ k ≤ 18446744073709551615 := by simpa [Lit.wf, IntKind.min, IntKind.max, IntKind.signed, IntKind.bits] using w2
  have b3 : -9223372036854775808 ≤ s ∧ s ≤ 9223372036854775807 := by simpa [Lit.wf, IntKind.min, IntKind.max, IntKind.signed, IntKind.bits] using w3
  have b5 : 0 ≤ t ∧ t ≤ 18446744073709551615 := by simpa [Lit.wf, IntKind.min, IntKind.max, IntKind.signed, IntKind.bits] using w5
  subst h0 h1 h2 h3 h5
  refine ⟨⟨d, c, k.toNat, s, x4, ds, t.toNat⟩, ?_, hd, ⟨b0, b1, by simp; omega, b3, by simp; omega⟩⟩
  unfold Ac.arr
  rw [show ((k.toNat : Nat) : Int) = k by omega, show ((t.toNat : Nat) : Int) = t by omega]
theorem list6 {α : Type} : ∀ {cs : List α}, cs.length = 6 → ∃ a b c d e f, cs = [a, b, c, d, e, f]
  | [a, b, c, d, e, f], _ => ⟨a, b, c, d, e, f, rfl⟩
theorem openAcs {fuel : Nat} {v : Value} {x : DataW H × List MemPlace} (h : DataW.trod enc Try.prog w base spare held fuel 23 [v] = some x) : ∃ l, IsAcs w v l := by
  have e6 : Try.prog.cellsOf 36 = 6 := by kernel_rfl
  rcases open_slice Try.underlying23 h with ⟨hcs, _⟩ | ⟨a, len, c, m, n, D, Pl, hcs, hb, hl, hm, hmm, hx, hi⟩
  · simp only [List.cons.injEq, and_true] at hcs
    exact ⟨[], none, 0, hcs, fun h => absurd h (by simp)⟩
  · simp only [List.cons.injEq, and_true] at hcs
    subst hcs
    have hlm : len ≤ m := by rw [hmm]; split <;> omega
    obtain ⟨l, hll, hq⟩ := list_choose (Q := fun i (A : Ac) => (∀ j, j < 6 → w.cell? (a.add (i * 6 + j)) = A.arr[j]?) ∧ Holds8 w A.dv A.ds ∧ A.Wf) len (fun i hil => by
      obtain ⟨cs', hc, ht'⟩ := hi i (by omega)
      rw [e6] at hc
      obtain ⟨_, hcl, hat⟩ := World.cells?_some hc
      obtain ⟨x0, x1, x2, x3, x4, x5, rfl⟩ := list6 hcl
      obtain ⟨A, eA, hd, hw⟩ := openAct1 ht'
      refine ⟨A, fun j hj => ?_, hd, hw⟩
      have q := hat j hj
      rw [Go.Deep.add_add] at q
      rw [q, ← eA]
      exact (List.getElem?_toArray ..).symm)
    refine ⟨l, some a, c, by rw [hll], fun h0 => ?_⟩
    obtain ⟨b, o, spot⟩ := a
    have h00 := (hq 0 l[0] (List.getElem?_eq_getElem h0)).1 0 (by decide)
    have hspot : spot = none := by
      have h1 : w.cell? ((⟨b, o, spot⟩ : Addr).add (0 * 6 + 0)) = some (.int .i64 l[0].kind) := h00
      simpa [Addr.add] using World.cell?_spot h1
    subst hspot
    have hbl : b < w.heap.size := by
      have h1 : w.cell? ((⟨b, o, none⟩ : Addr).add (0 * 6 + 0)) = some (.int .i64 l[0].kind) := h00
      simpa [Addr.add] using World.block_lt_of_cell? w _ h1
    refine ⟨b, o, rfl, hbl, fun j A hj => ?_⟩
    obtain ⟨q, hd, hw⟩ := hq j A hj
    have q0 := q 0 (by decide)
    have q1 := q 1 (by decide)
    have q2 := q 2 (by decide)
    have q3 := q 3 (by decide)
    have q4 := q 4 (by decide)
    have q5 := q 5 (by decide)
    rw [Addr.add_lit] at q0 q1 q2 q3 q4 q5
    exact ⟨q0, q1, q2, q3, q4, q5, hd, hw⟩
theorem openActsT {a : Option Addr} {len cap : Nat} {d : DataW H} {p : List MemPlace} (h : DataW.Trod enc Try.prog w base spare held 23 (.slice a len cap) d p) : ∃ l, IsAcs w (.slice a len cap) l := by
  obtain ⟨fuel, hf⟩ := h
  exact openAcs (by simpa [Value.cells] using hf)
set_option maxRecDepth 100000 in
theorem open_act {r : Reach} {b0 : Nat} {v : Value} {d : DataW H} {p : List MemPlace} (hv : Value.okWide Try.prog w r b0 36 v) (h : DataW.Trod enc Try.prog w base spare held 36 v d p) :
    ∃ A : Ac, v = .agg A.arr ∧ Holds8 w A.dv A.ds ∧ A.Wf := by
  obtain ⟨cs, rfl, hsz⟩ := okWide_struct Try.underlying36 hv
  have e6 : Try.prog.cellsOf 36 = 6 := by kernel_rfl
  obtain ⟨fuel, hf⟩ := h
  have hl : cs.toList.length = 6 := by rw [e6] at hsz; exact hsz
  obtain ⟨x0, x1, x2, x3, x4, x5, e⟩ := list6 hl
  have ec : cs = #[x0, x1, x2, x3, x4, x5] := by rw [← Array.toArray_toList (xs := cs), e]
  subst ec
  obtain ⟨A, eA, hd, hw⟩ := openAct1 (show DataW.trod enc Try.prog w base spare held fuel 36 [x0, x1, x2, x3, x4, x5] = _ from hf)
  exact ⟨A, by rw [← eA], hd, hw⟩

theorem openCls {a : Option Addr} {len cap : Nat} {d : DataW H} {p : List MemPlace} (h : DataW.Trod enc Try.prog w base spare held 22 (.slice a len cap) d p) : ∃ l, Cls w (.slice a len cap) l := by
  obtain ⟨fuel, hf⟩ := h
  have hf : DataW.trod enc Try.prog w base spare held fuel 22 [.slice a len cap] = some (d, p) := by simpa [Value.cells] using hf
  rcases open_slice_fields Try.underlying22 Try.underlying46 (by kernel_rfl) (by kernel_rfl) hf with ⟨hcs, _⟩ | ⟨ad, len', c, m, D, Pl, hcs, hb, hl, hm, hmm, hx, hi⟩
  · simp only [List.cons.injEq, and_true] at hcs
    exact ⟨[], ⟨none, 0, by rw [hcs]; rfl, Nat.le_refl _, fun h => absurd h (by simp)⟩, fun x hx => by cases hx⟩
  · simp only [List.cons.injEq, and_true] at hcs
    rw [hcs]
    have hlm : len' ≤ m := by rw [hmm]; split <;> omega
    obtain ⟨l, hll, hq⟩ := list_choose (Q := fun i (x : Cl) => (w.cell? (ad.add (i * 4)) = some (.int .u64 x.rate) ∧ w.cell? (ad.add (i * 4 + 1)) = some (.int .u64 x.burst) ∧ w.cell? (ad.add (i * 4 + 2)) = some (.int .i64 x.items) ∧ w.cell? (ad.add (i * 4 + 3)) = some (.int .i64 x.size)) ∧ x.Ok) len' (fun i hil => by
      obtain ⟨ys, n, _, _, hyl, hf⟩ := hi i (by omega)
      obtain ⟨v0, y0, q0, _, t0⟩ := hf 0 _ rfl
      obtain ⟨v1, y1, q1, _, t1⟩ := hf 1 _ rfl
      obtain ⟨v2, y2, q2, _, t2⟩ := hf 2 _ rfl
      obtain ⟨v3, y3, q3, _, t3⟩ := hf 3 _ rfl
      obtain ⟨k0, h0, _, w0⟩ := DataW.trod_int Try.underlying30 t0
      obtain ⟨k1, h1, _, w1⟩ := DataW.trod_int Try.underlying30 t1
      obtain ⟨k2, h2, _, w2⟩ := DataW.trod_int Try.underlying3 t2
      obtain ⟨k3, h3, _, w3⟩ := DataW.trod_int Try.underlying3 t3
      simp only [List.cons.injEq, and_true] at h0 h1 h2 h3
      subst h0 h1 h2 h3
      have b0 : 0 ≤ k0 ∧ k0 ≤ 18446744073709551615 := by simpa [Lit.wf, IntKind.min, IntKind.max, IntKind.signed, IntKind.bits] using w0
      have b1 : 0 ≤ k1 ∧ k1 ≤ 18446744073709551615 := by simpa [Lit.wf, IntKind.min, IntKind.max, IntKind.signed, IntKind.bits] using w1
      have b2 : -9223372036854775808 ≤ k2 ∧ k2 ≤ 9223372036854775807 := by simpa [Lit.wf, IntKind.min, IntKind.max, IntKind.signed, IntKind.bits] using w2
      have b3 : -9223372036854775808 ≤ k3 ∧ k3 ≤ 9223372036854775807 := by simpa [Lit.wf, IntKind.min, IntKind.max, IntKind.signed, IntKind.bits] using w3
      refine ⟨⟨k0.toNat, k1.toNat, k2, k3⟩, ⟨?_, ?_, q2, q3⟩, ⟨by simp; omega, by simp; omega, b2, b3⟩⟩
      · rw [show ((k0.toNat : Nat) : Int) = k0 by omega]; exact q0
      · rw [show ((k1.toNat : Nat) : Int) = k1 by omega]; exact q1)
    refine ⟨l, ⟨some ad, c, by rw [hll], by rw [hll]; exact hl, fun h0 => ?_⟩, fun x hx => ?_⟩
    · obtain ⟨b, o, spot⟩ := ad
      have h00 := (hq 0 l[0] (List.getElem?_eq_getElem h0)).1.1
      have hspot : spot = none := by simpa [Addr.add] using World.cell?_spot h00
      subst hspot
      have hbl := World.block_lt_of_cell? w _ h00
      refine ⟨b, o, rfl, by simpa [Addr.add] using hbl, fun j x hj => ?_⟩
      obtain ⟨⟨q0, q1, q2, q3⟩, _⟩ := hq j x hj
      rw [Addr.add_lit] at q0 q1 q2 q3
      exact ⟨q0, q1, q2, q3⟩
    · obtain ⟨j, hj⟩ := List.mem_iff_getElem?.1 hx
      exact (hq j x hj).2
end

/-- At most m calls, of 20 bytes. -/
def FewA (m : Nat) (l : List Ac) : Prop := l.length ≤ m ∧ ∀ A ∈ l, A.ds.length ≤ 20
def FewRes (m : Nat) (l : List Ac) (w : World) (e : Ending) (w' : World) : Prop := ∃ b : Bool, e = .returned (.bool b) ∧ w' = w ∧ (b = true → FewA m l) ∧ (FewA m l → b = true)

set_option maxRecDepth 100000 in
theorem few_any (v : Value) (l : List Ac) (m : Nat) (hm : m ≤ 1000000) (w : World) (h : IsAcs w v l) :
    Calls Try.prog 8 #[v, .int .i64 m] w (FewRes m l w) := by
  obtain ⟨ao, cap, rfl, hc⟩ := h
  have HC := Lib.hid hc
  clear hc
  go_enter Try.func8, Try.ntmps8
  go_wp2_with fail
  go_loop [5] (fun i => ∃ k : Nat, i = .int .i64 k ∧ k ≤ l.length ∧ k ≤ m + 1 ∧ ∀ A ∈ l.take k, A.ds.length ≤ 20) (fun i => m + 1 - (intOf i).toNat)
  case atStart => exact ⟨0, rfl, Nat.zero_le _, Nat.zero_le _, by simp⟩
  case round =>
    obtain ⟨k, rfl, hk, hk41, hall⟩ := hrel
    by_cases hlt : k < l.length
    · by_cases h41 : k < m + 1
      · obtain ⟨b, o, rfl, hb, hA⟩ := HC.out (by omega)
        obtain ⟨A, hAk⟩ : ∃ A, l[k]? = some A := ⟨_, List.getElem?_eq_getElem hlt⟩
        have hA := hA k A hAk
        obtain ⟨da, dc, ed, _⟩ := hA.d
        have c4 := hA.c4
        rw [ed] at c4
        have HALL := Lib.hid hall
        have HAK := Lib.hid hAk
        have hki : (k : Int) < (l.length : Int) := by omega
        have hkm : (k : Int) ≤ (m : Int) := by omega
        clear hall hAk hA ed
        by_cases hd : 20 < A.ds.length
        · go_wp2_with fail
          go_ret
          exact ⟨false, rfl, rfl, fun h => Bool.noConfusion h, fun h => absurd (h.2 A (List.mem_of_getElem? HAK.out)) (by omega)⟩
        · go_wp2_with fail
          go_round
          case rel =>
            refine ⟨k + 1, by go_num, by omega, by omega, ?_⟩
            intro B hB
            rw [List.take_add_one, HAK.out] at hB
            rcases List.mem_append.1 hB with hB | hB
            · exact HALL.out B hB
            · simp at hB; subst hB; omega
          case measure => simp [intOf]; omega
      · have hlen : ¬ (l.length : Int) ≤ (m : Int) := by omega
        have hki : (k : Int) < (l.length : Int) := by omega
        have hkm : ¬ (k : Int) ≤ (m : Int) := by omega
        go_wp2_with fail
        go_ret
        refine ⟨false, ?_, rfl, fun h => Bool.noConfusion h, fun h => absurd h.1 (by omega)⟩
        simp
    · have HALL := Lib.hid hall
      have hkl : l.take k = l := List.take_of_length_le (by omega)
      have HK := Lib.hid hkl
      have hki : ¬ (k : Int) < (l.length : Int) := by omega
      clear hall hkl
      go_wp2_with fail
      go_ret
      refine ⟨decide (l.length ≤ m), ?_, rfl, fun h => ⟨of_decide_eq_true h, by rw [← HK.out]; exact HALL.out⟩, fun h => decide_eq_true h.1⟩
      simp

/-- What Pick answers. -/
def pickN (i n : Int) : Nat := ((i.tmod n + n) % n).toNat
theorem pickN_lt {i n : Int} (h0 : 0 < n) : (pickN i n : Int) < n := by
  have h5 := Int.emod_nonneg (i.tmod n + n) (show n ≠ 0 by omega)
  have h6 := Int.emod_lt_of_pos (i.tmod n + n) h0
  unfold pickN
  omega

theorem pick_any (i n : Int) (h0 : 0 < n) (hn : n ≤ 1000000) (w : World) :
    Calls Try.prog 14 #[.int .i64 i, .int .i64 n] w fun e w' => e = .returned (.int .i64 (pickN i n)) ∧ w' = w := by
  have h1 : (i.tmod n) < n := Int.tmod_lt_of_pos i h0
  have h2 : -n < i.tmod n := by have := Int.lt_tmod_of_pos i h0; omega
  have h3 : 0 ≤ (i.tmod n + n).tmod n := Int.tmod_nonneg _ (by omega)
  have h4 : (i.tmod n + n).tmod n < n := Int.tmod_lt_of_pos _ h0
  go_enter Try.func14, Try.ntmps14
  go_wp2_with fail
  go_ret
  have h5 := Int.emod_nonneg (i.tmod n + n) (show n ≠ 0 by omega)
  exact ⟨ret_int (by unfold pickN; omega), rfl⟩
end Go.Proofs.Ythipfcmjpgbemaa

/- ShaperNone, walked. -/
namespace Go.Proofs.Ythipfcmjpgbemaa
open Go.RowKit

theorem acs_one (A : Ac) (w : World) (hd : Holds8 w A.dv A.ds) (hw : A.Wf) : IsAcs (w.alloc (.cells A.arr 36)) (.slice (some ⟨w.heap.size, 0, none⟩) 1 1) [A] := by
  have hg := alloc_block_new w (.cells A.arr 36)
  refine ⟨_, 1, rfl, fun _ => ⟨_, 0, rfl, lt_of_obj hg, fun i B hi => ?_⟩⟩
  match i, hi with
  | 0, hi =>
    simp at hi
    subst hi
    exact ⟨cell_of_block hg 0, cell_of_block hg 1, cell_of_block hg 2, cell_of_block hg 3, cell_of_block hg 4, cell_of_block hg 5, hd.below ((Below.refl _ _).alloc (Nat.le_refl _) _), hw⟩

set_option maxRecDepth 100000 in
set_option maxHeartbeats 2000000 in
theorem none_any (A : Ac) (w : World) (hd : Holds8 w A.dv A.ds) (hw : A.Wf) :
    Calls Try.prog 6 #[.agg A.arr] w fun e w' => e = .returned (.bool true) ∧ Below w.heap.size w w' := by
  have hA : Below w.heap.size w (w.alloc (.cells A.arr 36)) := (Below.refl _ _).alloc (Nat.le_refl _) _
  have h0 := alloc_block_new w (.cells A.arr 36)
  have hF := acs_one A _ (hd.below hA) hw
  have hA2 := hA.trans ((Below.refl _ (w.alloc (.cells A.arr 36))).alloc hA.size (.cells A.arr 36))
  have h02 := (alloc_block_old (.cells A.arr 36) (lt_of_obj h0)).trans h0
  obtain ⟨kind, cls, no, size, dv, ds, tick⟩ := A
  obtain ⟨ya, yc, ey, _⟩ := id hd
  have ey : dv = .slice ya ds.length yc := ey
  subst ey
  rw [alloc_size] at hF
  have HF := Lib.hid hF
  have HA := Lib.hid (And.intro hA2 h02)
  clear hA h0 hF hA2 h02
  unfold Ac.arr at *
  dsimp only at *
  generalize hys : ds.length = yl at *
  go_enter Try.func6, Try.ntmps6
  go_wp2_with fail
  obtain ⟨g, hg⟩ : ∃ g, w.heap.size = g := ⟨_, rfl⟩
  have HW : Hid (w.heap.size = g) := hg
  rw [hg] at HF HA
  rw [hg]
  clear hg
  generalize (w.alloc (.cells #[.int .i64 kind, .int .i64 cls, .int .u64 no, .int .i64 size, .slice ya yl yc, .int .u64 tick] 36)).alloc (.cells #[.int .i64 kind, .int .i64 cls, .int .u64 no, .int .i64 size, .slice ya yl yc, .int .u64 tick] 36) = wa at *
  refine (few_any _ _ 1 (by decide) _ HF.out).mono ?_
  rintro e w1 ⟨b, rfl, rfl, -, -⟩
  have HA := Lib.hid HA.out
  clear HF hw hd
  cases b
  · go_wp2_with fail
    refine (works_any _).mono ?_
    rintro e w2 ⟨rfl, hB2⟩
    go_wp2_with fail
    go_ret
    refine ⟨rfl, ?_⟩
    rw [HW.out]
    exact HA.out.1.trans (hB2.mono (HW.out ▸ HA.out.1.size))
  · go_wp2_with fail
    refine (Next_nil _).mono ?_
    rintro e w2 ⟨rfl, rfl⟩
    have q0 := cell_of_block HA.out.2 0
    have q1 := cell_of_block HA.out.2 1
    have q2 := cell_of_block HA.out.2 2
    have q3 := cell_of_block HA.out.2 3
    have q4 := cell_of_block HA.out.2 4
    have q5 := cell_of_block HA.out.2 5
    dsimp at q0 q1 q2 q3 q4 q5
    go_wp2_with fail
    refine (Offer_nil cls no size (.slice ya yl yc) ya yl yc rfl _).mono ?_
    rintro e w3 ⟨rfl, hB3⟩
    have h3 := (hB3.block g (lt_of_obj HA.out.2)).trans HA.out.2
    have HA3 := Lib.hid (And.intro (HA.out.1.trans (hB3.mono (HW.out ▸ HA.out.1.size))) h3)
    clear hB3 h3 q0 q1 q2 q3 q4 q5 HA
    have q0 := cell_of_block HA3.out.2 0
    have q1 := cell_of_block HA3.out.2 1
    have q2 := cell_of_block HA3.out.2 2
    have q3 := cell_of_block HA3.out.2 3
    have q4 := cell_of_block HA3.out.2 4
    have q5 := cell_of_block HA3.out.2 5
    dsimp at q0 q1 q2 q3 q4 q5
    go_wp2_with fail
    refine (Release_nil tick _).mono ?_
    rintro e w4 ⟨rfl, rfl⟩
    go_wp2_with fail
    refine (Tick_nil _).mono ?_
    rintro e w4 ⟨rfl, rfl⟩
    go_wp2_with fail
    refine (Stat_nil cls _).mono ?_
    rintro e w5 ⟨rfl, hB5⟩
    have h5 := (hB5.block g (lt_of_obj HA3.out.2)).trans HA3.out.2
    have HA5 := Lib.hid (And.intro (HA3.out.1.trans (hB5.mono (HW.out ▸ HA3.out.1.size))) h5)
    clear hB5 h5 q0 q1 q2 q3 q4 q5 HA3
    have q0 := cell_of_block HA5.out.2 0
    have q1 := cell_of_block HA5.out.2 1
    have q2 := cell_of_block HA5.out.2 2
    have q3 := cell_of_block HA5.out.2 3
    have q4 := cell_of_block HA5.out.2 4
    have q5 := cell_of_block HA5.out.2 5
    dsimp at q0 q1 q2 q3 q4 q5
    unfold statArr
    go_wp2_with fail
    refine (Queued_nil cls _).mono ?_
    rintro e w6 ⟨rfl, rfl⟩
    go_wp2_with fail
    refine (Clear_nil _).mono ?_
    rintro e w6 ⟨rfl, rfl⟩
    go_wp2_with fail
    refine (works_any _).mono ?_
    rintro e w7 ⟨rfl, hB7⟩
    go_wp2_with fail
    go_ret
    refine ⟨rfl, ?_⟩
    rw [HW.out]
    exact HA5.out.1.trans (hB7.mono (HW.out ▸ HA5.out.1.size))
end Go.Proofs.Ythipfcmjpgbemaa
