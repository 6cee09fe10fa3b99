/- ShaperBounds: its state between calls. -/
import Derived.Test.YthipfcmjpgbemaaTc
namespace Go.Proofs.Ythipfcmjpgbemaa
open Go.RowKit

theorem offR_new {w : World} {n : Nat} {C : Array Value} (hC : C.toList = List.replicate n (Value.slice none 0 0)) : OffR (w.alloc (.cells C 51)) w.heap.size w.heap.size (List.replicate n (.slice none 0 0)) (List.replicate n []) := by
  refine ⟨Nat.le_refl _, ⟨C, alloc_block_new w _, hC⟩, by simp, fun c os hc => ?_, fun c d y z _ hy hz k hk => ?_⟩
  · rw [List.getElem?_replicate] at hc
    split at hc
    · rename_i h
      injection hc with hc
      subst hc
      exact ⟨.slice none 0 0, by rw [List.getElem?_replicate, if_pos h], World.ownsRow_nil _ _ _ _⟩
    · cases hc
  · rw [List.getElem?_replicate] at hy
    split at hy
    · injection hy with hy
      subst hy
      simp [Value.ownBlock] at hk
    · cases hy

/-- One number behind one row. -/
theorem OffR.push {w w2 : World} {base g c no : Nat} {ys : List Value} {off : List (List Nat)} {os : List Nat} {y v' : Value} (h : OffR w base g ys off) (hc : off[c]? = some os) (hy : ys[c]? = some y) (hb : base ≤ w.heap.size)
    (hrow : w2.ownsRow 0 30 1 v' (os.length + 1) (nCells os ++ [.int .u64 (no : Int)])) (hG : w.grownBy w2 y.ownBlock) (hv : v'.ownBlock = y.ownBlock ∨ v'.ownBlock = some w.heap.size) :
    OffR (w2.setCell ⟨g, c, none⟩ v') base g (ys.set c v') (off.set c (os ++ [no])) ∧ Only (OffD g ys) w (w2.setCell ⟨g, c, none⟩ v') ∧ (∀ j, OffD g (ys.set c v') j → OffD g ys j ∨ w.heap.size ≤ j) := by
  have hO : Only (fun k => y.ownBlock = some k) w w2 := (Only.refl _ _).grown hG (fun k hk _ => hk)
  have hcl := (List.getElem?_eq_some_iff.1 hc).1
  have hyl := (List.getElem?_eq_some_iff.1 hy).1
  obtain ⟨cs, hblk, hcs⟩ := h.blk
  have hgl := lt_of_obj hblk
  have hne := h.ne hy
  have hblk2 := hO.keep hblk hne
  have hv2 : ∀ k, v'.ownBlock = some k → y.ownBlock = some k ∨ w.heap.size = k := fun k hk => by
    rcases hv with e | e
    · rw [e] at hk; exact .inl hk
    · rw [e] at hk; injection hk with hk; exact .inr hk
  have hvg : ¬ v'.ownBlock = some g := fun e => by
    rcases hv2 g e with e | e
    · exact hne e
    · omega
  have hO3 : Only (OffD g ys) w (w2.setCell ⟨g, c, none⟩ v') := (hO.mono fun k _ hk => .inr ⟨c, y, hy, hk⟩).setCell (fun _ => .inl rfl) _
  have hOg : Only (· = g) w2 (w2.setCell ⟨g, c, none⟩ v') := Only.setCell (S := (· = g)) (p := ⟨g, c, none⟩) (Only.refl _ _) (fun _ => rfl) _
  refine ⟨⟨h.ge, ⟨_, setCell_block hblk2 _ _, by rw [Array.toList_setIfInBounds, hcs]⟩, by rw [List.length_set, List.length_set]; exact h.len, fun d os2 hd => ?_, fun d e z z' hde hz hz' k hk => ?_⟩, hO3, fun j hj => ?_⟩
  · by_cases hdc : d = c
    · subst hdc
      rw [List.getElem?_set_self hcl] at hd
      injection hd with hd
      subst hd
      refine ⟨v', List.getElem?_set_self hyl, ?_⟩
      rw [← nCells_snoc, List.length_append]
      exact own_only (own_raise hrow fun k hk => by
        rcases hv2 k hk with e | e
        · obtain ⟨os', hos', hr⟩ := h.has hy
          exact own_ge hr k e
        · omega) hOg (fun k hk e => hvg (e ▸ hk))
    · rw [List.getElem?_set_ne (by omega)] at hd
      obtain ⟨z, hz, hr⟩ := h.rows d os2 hd
      refine ⟨z, by rw [List.getElem?_set_ne (by omega)]; exact hz, ?_⟩
      exact own_only (own_only hr hO (fun k hk e => h.dj d c z y hdc hz hy k hk e)) hOg (fun k hk e => h.ne hz (e ▸ hk))
  · by_cases hdc : d = c
    · subst hdc
      rw [List.getElem?_set_self hyl] at hz
      injection hz with hz
      subst hz
      rw [List.getElem?_set_ne (by omega)] at hz'
      rcases hv2 k hk with e1 | e1
      · exact h.dj d e y z' hde hy hz' k e1
      · intro e2
        obtain ⟨os', -, hr⟩ := h.has hz'
        have := own_lt hr k e2
        omega
    · rw [List.getElem?_set_ne (by omega)] at hz
      by_cases hec : e = c
      · subst hec
        rw [List.getElem?_set_self hyl] at hz'
        injection hz' with hz'
        subst hz'
        intro e2
        rcases hv2 k e2 with e1 | e1
        · exact h.dj d e z y hde hz hy k hk e1
        · obtain ⟨os', -, hr⟩ := h.has hz
          have := own_lt hr k hk
          omega
      · rw [List.getElem?_set_ne (by omega)] at hz'
        exact h.dj d e z z' hde hz hz' k hk
  · rcases hj with rfl | ⟨d, z, hz, hk⟩
    · exact .inl (.inl rfl)
    · by_cases hdc : d = c
      · subst hdc
        rw [List.getElem?_set_self hyl] at hz
        injection hz with hz
        subst hz
        rcases hv2 j hk with e | e
        · exact .inl (.inr ⟨d, y, hy, e⟩)
        · exact .inr (by omega)
      · rw [List.getElem?_set_ne (by omega)] at hz
        exact .inl (.inr ⟨d, z, hz, hk⟩)

/-- The call's own memory: the shaper, the rows of what was offered, the row of what went out. -/
structure MSt (W w : World) (p : Nat) (O : Nat → Nat) (v : Value) (ps : List Nat) (S : Sh) (g : Nat) (ys : List Value) (off : List (List Nat)) (F : Nat → Prop) (ov : Value) (xs : List Value) (L : List OutR) : Prop where
  m : MineS W w p O v ps S
  o : OffR w W.heap.size g ys off
  r : GotR w F ov xs L
  fo : ∀ j, F j ∨ ov.ownBlock = some j → O j = 0 ∧ W.heap.size ≤ j
  oo : ∀ j, OffD g ys j → O j = 0
/-- What holds of the numbers. -/
structure NSt (l : List Cl) (S : Sh) (off : List (List Nat)) (L : List OutR) (k : Nat) : Prop where
  ok : S.Ok k
  fair : Fair l S off L
  tot : total S.ls + L.length ≤ k
  tick : S.tick < 4294967296
  ov : ∀ os ∈ off, os.length ≤ k

section
variable {W w w' : World} {p : Nat} {O O' : Nat → Nat} {v : Value} {ps : List Nat} {S S' : Sh} {g : Nat} {ys : List Value} {off : List (List Nat)} {F : Nat → Prop} {ov : Value} {xs : List Value} {L : List OutR}
theorem MSt.flt (h : MSt W w p O v ps S g ys off F ov xs L) {j : Nat} (hj : F j ∨ ov.ownBlock = some j) : j < w.heap.size := by
  rcases hj with hj | hj
  · exact h.r.flt hj
  · exact h.r.vlt hj
theorem MSt.keepS (h : MSt W w p O v ps S g ys off F ov xs L) (hI : IsS w' p O' v ps S') (hG : Grow O O' w w') : MSt W w' p O' v ps S' g ys off F ov xs L := by
  have hz : ∀ j, j < w.heap.size → O j = 0 → O' j = 0 := fun j hj h0 => by
    rcases Nat.eq_zero_or_pos (O' j) with e | e
    · exact e
    · rcases hG.new j (by omega) with e2 | e2 <;> omega
  exact ⟨h.m.step hI hG, h.o.keep hG.only (fun k hk e => e (h.oo k hk)), h.r.keep hG.only (fun k hk e => e (h.fo k (.inl hk)).1) (fun k hk e => e (h.fo k (.inr hk)).1),
    fun j hj => ⟨hz j (h.flt hj) (h.fo j hj).1, (h.fo j hj).2⟩, fun j hj => hz j (h.o.lt hj).2 (h.oo j hj)⟩
theorem MSt.below (h : MSt W w p O v ps S g ys off F ov xs L) (hB : Below w.heap.size w w') : MSt W w' p O v ps S g ys off F ov xs L := h.keepS (h.m.is.below hB) (Grow.below hB)
theorem ty_ne {k : Nat} {a b : Array Value} {s t : TypeId} {f f' : Nat × Nat} (ha : w.heap[k]? = some (.cells a s f)) (hb : w.heap[k]? = some (.cells b t f')) (hne : s ≠ t) : False := by
  rw [ha] at hb
  injection hb with hb
  injection hb with _ e _
  exact hne e
theorem MSt.apart (h : MSt W w p O v ps S g ys off F ov xs L) {k : Nat} (hk : OffD g ys k) : ¬ (F k ∨ ov.ownBlock = some k) := by
  obtain ⟨c, hc⟩ := h.o.ty hk
  rintro (hf | hf)
  · obtain ⟨c', hc'⟩ := h.r.ft k hf
    rcases hc with hc | hc <;> exact ty_ne hc hc' (by decide)
  · obtain ⟨c', hc'⟩ := row_type h.r.row k hf
    rcases hc with hc | hc <;> exact ty_ne hc hc' (by decide)
/-- One number behind one row of those that were offered. -/
theorem MSt.push {w2 : World} {c no : Nat} {os : List Nat} {y v' : Value} (h : MSt W w p O v ps S g ys off F ov xs L) (hc : off[c]? = some os) (hy : ys[c]? = some y)
    (hrow : w2.ownsRow 0 30 1 v' (os.length + 1) (nCells os ++ [.int .u64 (no : Int)])) (hG : w.grownBy w2 y.ownBlock) (hv : v'.ownBlock = y.ownBlock ∨ v'.ownBlock = some w.heap.size) :
    MSt W (w2.setCell ⟨g, c, none⟩ v') p O v ps S g (ys.set c v') (off.set c (os ++ [no])) F ov xs L := by
  obtain ⟨h1, h2, h3⟩ := h.o.push hc hy h.m.bel.size hrow hG hv
  refine ⟨⟨h.m.is.keep h2 (fun k hk e => hk (h.oo k e)), h.m.ge, h.m.bel.trans (h2.below h.m.bel.size (fun k hk e => by have := (h.o.lt e).1; omega))⟩, h1, h.r.keep h2 (fun k hk e => h.apart e (.inl hk)) (fun k hk e => h.apart e (.inr hk)), h.fo, fun j hj => ?_⟩
  rcases h3 j hj with e | e
  · exact h.oo j e
  · exact h.m.is.zero e
/-- What a Release lets out is appended. -/
theorem MSt.out {wB : World} {F2 : Nat → Prop} {vo v3 : Value} {ys2 : List Value} {M : List OutR} (h : MSt W w p O v ps S g ys off F ov xs L) (hR : ROut w wB p O O' v ps S' F2 vo ys2 M)
    (hG : GotR w' (fun k => F k ∨ F2 k) v3 (xs ++ ys2) (L ++ M)) (hO : Only (fun k => ov.ownBlock = some k) wB w') (hv : v3.ownBlock = ov.ownBlock ∨ v3.ownBlock = some wB.heap.size) :
    MSt W w' p O' v ps S' g ys off (fun k => F k ∨ F2 k) v3 (xs ++ ys2) (L ++ M) := by
  have hB := h.keepS hR.is hR.grow
  have hs := hB.m.bel.size
  have hsw := h.m.bel.size
  refine ⟨⟨hB.m.is.keep hO (fun k hk e => hk (hB.fo k (.inr e)).1), hB.m.ge, hB.m.bel.trans (hO.below hs (fun k hk e => by have := (hB.fo k (.inr e)).2; omega))⟩, hB.o.keep hO (fun k hk e => hB.apart hk (.inr e)), hG, fun j hj => ?_, hB.oo⟩
  rcases hj with (hj | hj) | hj
  · exact hB.fo j (.inl hj)
  · exact ⟨hR.df j hj, Nat.le_trans hsw (hR.new.ge j hj)⟩
  · rcases hv with e | e
    · rw [e] at hj
      exact hB.fo j (.inr hj)
    · rw [e] at hj
      injection hj with hj
      subst hj
      exact ⟨hB.m.is.zero (Nat.le_refl _), hs⟩
end

theorem NSt.mono {l : List Cl} {S : Sh} {off : List (List Nat)} {L : List OutR} {k m : Nat} (h : NSt l S off L k) (hk : k ≤ m) (hm : m ≤ 1000000) : NSt l S off L m :=
  ⟨h.ok.mono hk hm, h.fair, Nat.le_trans h.tot hk, h.tick, fun os ho => Nat.le_trans (h.ov os ho) hk⟩
theorem NSt.rel {l : List Cl} {S : Sh} {off : List (List Nat)} {L : List OutR} {k t : Nat} (h : NSt l S off L k) (ht : t < 4294967296) :
    NSt l (S.rel t).1 off (L ++ (S.rel t).2) k ∧ ((S.rel t).1.next.ok = true → (S.rel t).1.tick < (S.rel t).1.next.at') := by
  obtain ⟨h1, h2, h3⟩ := h.fair.rel h.ok (show t < 18446744073709551616 by omega)
  have h4 := rel_total S t
  have h5 := h.tot
  have h6 := h.tick
  exact ⟨⟨h.ok.rel (by omega), h1, by rw [List.length_append]; omega, by rw [h2]; omega, h.ov⟩, h3⟩
theorem NSt.offer {l : List Cl} {S : Sh} {off : List (List Nat)} {L : List OutR} {k c no : Nat} {sz : Int} {M : Ln} {os : List Nat} (h : NSt l S off L k) (hM : S.ls[c]? = some M) (hos : off[c]? = some os) (h0 : 0 ≤ sz) (h1 : sz ≤ 2048) (hk : k + 1 ≤ 1000000) :
    NSt l ⟨S.tick, S.ls.set c (offL M no sz [])⟩ (if roomB M.Q sz = true then off.set c (os ++ [no]) else off) L (k + 1) := by
  refine ⟨h.ok.offer hM no [] h0 h1 hk, h.fair.offer hM hos h0, ?_, h.tick, fun o ho => ?_⟩
  · have h2 := total_off (no := no) hM h0
    have h3 := h.tot
    show total (S.ls.set c _) + _ ≤ _
    omega
  · split at ho
    · rcases List.mem_or_eq_of_mem_set ho with h2 | rfl
      · exact Nat.le_trans (h.ov o h2) (Nat.le_succ _)
      · rw [List.length_append]
        have := h.ov os (List.mem_of_getElem? hos)
        simp
        omega
    · exact Nat.le_trans (h.ov o ho) (Nat.le_succ _)
end Go.Proofs.Ythipfcmjpgbemaa
