/- A line more. -/
import Derived.Test.YthipfcmjpgbemaaGh
namespace Go.Proofs.Ythipfcmjpgbemaa
open Go.RowKit

def pushO (O r : Nat → Nat) (lp bp c : Nat) (vb : Option Nat) (k : Nat) : Nat :=
  if k = lp then 3 + 3 * c else if k = bp then 4 + 3 * c else if r k ≠ 0 then 5 + 3 * c else if vb = some k then 2 else O k
theorem IsS.push {w w5 w6 : World} {p lp bp qp : Nat} {O r : Nat → Nat} {v v2 : Value} {ps : List Nat} {S : Sh} {L : Ln} (h : IsS w p O v ps S) (hB : Below w.heap.size w w5)
    (hlb : w5.heap[lp]? = some (.cells (L.cells bp qp) 88 (0, 0))) (hb : IsB w5 bp L.B) (hq : Que w5 qp r L.Q) (hgl : w.heap.size ≤ lp) (hgb : w.heap.size ≤ bp) (hgr : ∀ k, r k ≠ 0 → w.heap.size ≤ k) (hlb2 : lp ≠ bp) (hrl : r lp = 0) (hrb : r bp = 0)
    (hrow : w6.ownsRow 0 77 1 v2 (S.ls.length + 1) ((ps ++ [lp]).map ptr)) (hG : w5.grownBy w6 v.ownBlock) (hvv : v2.ownBlock = v.ownBlock ∨ v2.ownBlock = some w5.heap.size) :
    ∃ O', IsS (w6.setCell ⟨p, 1, none⟩ v2) p O' v2 (ps ++ [lp]) ⟨S.tick, S.ls ++ [L]⟩ ∧ Grow O O' w (w6.setCell ⟨p, 1, none⟩ v2) := by
  have h5 := h.below hB
  have hop := h.op
  have hO6 : Only (fun k => v.ownBlock = some k) w5 w6 := (Only.refl _ _).grown hG (fun k hk _ => hk)
  have hO7 : Only (· = p) w6 (w6.setCell ⟨p, 1, none⟩ v2) := Only.setCell (S := (· = p)) (p := ⟨p, 1, none⟩) (Only.refl _ _) (fun _ => rfl) _
  have hp := lt_of_obj h.blk
  have hO57 : Only (fun k => v.ownBlock = some k ∨ k = p) w5 (w6.setCell ⟨p, 1, none⟩ v2) := (hO6.mono fun k _ e => .inl e).trans (hO7.mono fun k _ e => .inr e)
  have hvO : ∀ k, v.ownBlock = some k → O k = 2 := h.ov
  have hold : ∀ k, O k ≠ 0 → pushO O r lp bp S.ls.length v2.ownBlock k = O k := fun k hk => by
    have hlt := h.lt k hk
    unfold pushO
    rw [if_neg (by omega), if_neg (by omega), if_neg (fun e => by have := hgr k e; omega)]
    split
    · rename_i e
      rcases hvv with e2 | e2
      · rw [e2] at e
        exact (hvO k e).symm
      · rw [e2] at e
        injection e with e
        have := hB.size
        omega
    · rfl
  have hnew : ∀ k, w.heap.size ≤ k → ¬ (v.ownBlock = some k ∨ k = p) := fun k hk e => by
    rcases e with e | e
    · have := h.lt k (by rw [hvO k e]; decide)
      omega
    · omega
  have hsz5 := hO6.size
  refine ⟨pushO O r lp bp S.ls.length v2.ownBlock, ⟨?_, ?_, ?_, ?_, ?_, ?_, ?_⟩, ⟨?_, hold, ?_⟩⟩
  · have hpn : ¬ v.ownBlock = some p := fun e => by have := hvO p e; rw [hop] at this; cases this
    exact setCell_block (hO6.keep h5.blk hpn) 1 _
  · show (w6.setCell ⟨p, 1, none⟩ v2).ownsRow 0 77 1 v2 (S.ls ++ [L]).length _
    rw [List.length_append]
    refine own_only hrow hO7 (fun k hk e => ?_)
    rw [e] at hk
    rcases hvv with e2 | e2
    · rw [e2] at hk
      have := hvO p hk
      rw [hop] at this
      cases this
    · rw [e2] at hk
      injection hk with hk
      have := hB.size
      omega
  · show (ps ++ [lp]).length = (S.ls ++ [L]).length
    rw [List.length_append, List.length_append, h.len]
    rfl
  · intro c M mp hc hm
    by_cases hlt : c < S.ls.length
    · have hc : (S.ls ++ [L])[c]? = some M := hc
      rw [List.getElem?_append_left hlt] at hc
      rw [List.getElem?_append_left (by rw [h.len]; exact hlt)] at hm
      obtain ⟨bm, qm, rm, hM⟩ := h5.ln c M mp hc hm
      refine ⟨bm, qm, rm, (hM.keep hO57 ?_ ?_ ?_).roles hold⟩
      · rintro (e | e)
        · have := hvO mp e; rw [hM.ol] at this; omega
        · have := hM.ol; rw [e, hop] at this; omega
      · rintro (e | e)
        · have := hvO bm e; rw [hM.ob] at this; omega
        · have := hM.ob; rw [e, hop] at this; omega
      · rintro k hk (e | e)
        · have := hvO k e; rw [hM.oq k hk] at this; omega
        · have := hM.oq k hk; rw [e, hop] at this; omega
    · have hcl := (List.getElem?_eq_some_iff.1 hc).1
      have hc : (S.ls ++ [L])[c]? = some M := hc
      have hcl : c < (S.ls ++ [L]).length := hcl
      simp at hcl
      obtain rfl : c = S.ls.length := by omega
      rw [List.getElem?_append_right (Nat.le_refl _), Nat.sub_self] at hc
      rw [List.getElem?_append_right (by rw [h.len]; exact Nat.le_refl _), h.len, Nat.sub_self] at hm
      simp at hc hm
      subst hc hm
      refine ⟨bp, qp, r, hO57.keep hlb (hnew lp hgl), hO57.keep hb (hnew bp hgb), hq.keep hO57 (fun k hk => hnew k (hgr k hk)), ?_, ?_, ?_⟩
      · unfold pushO; rw [if_pos rfl]
      · unfold pushO; rw [if_neg (fun e => hlb2 e.symm), if_pos rfl]
      · intro k hk
        unfold pushO
        rw [if_neg (fun e : k = lp => hk (by rw [e]; exact hrl)), if_neg (fun e : k = bp => hk (by rw [e]; exact hrb)), if_pos hk]
  · show pushO O r lp bp S.ls.length v2.ownBlock p = 1
    rw [hold p (by rw [hop]; decide)]
    exact hop
  · intro k hk
    rcases hvv with e2 | e2
    · rw [e2] at hk
      have h2 := hvO k hk
      rw [hold k (by rw [h2]; decide)]
      exact h2
    · have hk2 := hk
      rw [e2] at hk2
      injection hk2 with hk2
      have h1 := lt_of_obj hlb
      have h3 := lt_of_obj hb
      have h4 : ¬ r k ≠ 0 := fun e => by have := hq.lt k e; omega
      unfold pushO
      rw [if_neg (by omega), if_neg (by omega), if_neg h4, if_pos hk]
  · intro k (hk : pushO O r lp bp S.ls.length v2.ownBlock k ≠ 0)
    have hs7 := hO7.size
    unfold pushO at hk
    have h1 := lt_of_obj hlb
    have h3 := lt_of_obj hb
    split at hk
    · omega
    · split at hk
      · omega
      · split at hk
        · rename_i e
          have := hq.lt k e
          omega
        · split at hk
          · rename_i e
            obtain ⟨_, hc⟩ := row_type hrow k e
            have := lt_of_obj hc
            omega
          · have := h.lt k hk
            have := hB.size
            omega
  · refine ((Below.only hB (fun k => O k ≠ 0))).trans (hO57.mono fun k _ e => ?_)
    rcases e with e | e
    · rw [hvO k e]; decide
    · rw [e, hop]; decide
  · intro k (hk : pushO O r lp bp S.ls.length v2.ownBlock k ≠ 0)
    by_cases hkw : w.heap.size ≤ k
    · exact .inr hkw
    · refine .inl ?_
      unfold pushO at hk
      rw [if_neg (by omega), if_neg (by omega), if_neg (fun e => by have := hgr k e; omega)] at hk
      split at hk
      · rename_i e
        rcases hvv with e2 | e2
        · rw [e2] at e
          rw [hvO k e]; decide
        · rw [e2] at e
          injection e with e
          have := hB.size
          omega
      · exact hk
end Go.Proofs.Ythipfcmjpgbemaa

/- New: the ends. -/
namespace Go.Proofs.Ythipfcmjpgbemaa
open Go.RowKit

/-- What a class may. -/
structure Cl where
  rate : Nat
  burst : Nat
  items : Int
  size : Int
structure Cl.Ok (c : Cl) : Prop where
  rate : c.rate < 18446744073709551616
  burst : c.burst < 18446744073709551616
  items : -9223372036854775808 ≤ c.items ∧ c.items ≤ 9223372036854775807
  size : -9223372036854775808 ≤ c.size ∧ c.size ≤ 9223372036854775807
def Cl.may (c : Cl) : Bool := decide (0 ≤ c.items) && decide (c.items ≤ 65536) && decide (0 ≤ c.size) && decide (2048 ≤ c.burst)
def newLn (c : Cl) (t : Nat) : Ln := ⟨0, 0, 0, 0, ⟨c.rate, c.burst, t, c.burst⟩, empty c.items.toNat c.size.toNat⟩
/-- Classes that may be read. -/
structure Cls (w : World) (v : Value) (l : List Cl) : Prop where
  sh : ∃ a c, v = .slice a l.length c ∧ l.length ≤ c ∧ (0 < l.length → ∃ b o, a = some ⟨b, o, none⟩ ∧ b < w.heap.size ∧ ∀ j (x : Cl), l[j]? = some x → w.cell? ⟨b, o + j * 4, none⟩ = some (.int .u64 x.rate) ∧ w.cell? ⟨b, o + j * 4 + 1, none⟩ = some (.int .u64 x.burst) ∧ w.cell? ⟨b, o + j * 4 + 2, none⟩ = some (.int .i64 x.items) ∧ w.cell? ⟨b, o + j * 4 + 3, none⟩ = some (.int .i64 x.size))
  ok : ∀ x ∈ l, x.Ok
theorem Cls.below {w w' : World} {v : Value} {l : List Cl} (h : Cls w v l) (hB : Below w.heap.size w w') : Cls w' v l := by
  obtain ⟨a, c, e, hc, hx⟩ := h.sh
  refine ⟨⟨a, c, e, hc, fun h0 => ?_⟩, h.ok⟩
  obtain ⟨b, o, ea, hb, hj⟩ := hx h0
  refine ⟨b, o, ea, Nat.lt_of_lt_of_le hb hB.size, fun j x hjx => ?_⟩
  obtain ⟨h1, h2, h3, h4⟩ := hj j x hjx
  exact ⟨(hB.cell (p := ⟨b, _, none⟩) hb).trans h1, (hB.cell (p := ⟨b, _, none⟩) hb).trans h2, (hB.cell (p := ⟨b, _, none⟩) hb).trans h3, (hB.cell (p := ⟨b, _, none⟩) hb).trans h4⟩

theorem new_len {t : Nat} {w : World} {a : Option Addr} {n c : Nat} (hn : n = 0 ∨ 8 < n) :
    Calls Try.prog 10 #[.int .u64 t, .slice a n c] w fun e w' => e = .returned (.tuple #[.pointer none, .int .i64 2]) ∧ Below w.heap.size w w' := by
  rcases hn with rfl | hn
  · go_enter Try.func10, Try.ntmps10
    go_wp2_with fail
    go_ret2
    exact ⟨rfl, Below.refl _ _⟩
  · have h1 : (8 : Int) < (n : Int) := by omega
    have h2 : ¬ (n : Int) = 0 := by omega
    have h3 : ¬ n = 0 := by omega
    go_enter Try.func10, Try.ntmps10
    go_wp2_with fail
    go_ret2
    exact ⟨rfl, Below.refl _ _⟩

theorem info_lp : (Try.prog.info? 77).map (fun i => (i.zero, i.size, i.bytes)) = some (some (.pointer none), 1, 8) := by kernel_rfl
/-- A shaper of the call's own. -/
structure MineS (W w : World) (p : Nat) (O : Nat → Nat) (v : Value) (ps : List Nat) (S : Sh) : Prop where
  is : IsS w p O v ps S
  ge : ∀ k, O k ≠ 0 → W.heap.size ≤ k
  bel : Below W.heap.size W w
theorem MineS.below {W w w' : World} {p : Nat} {O : Nat → Nat} {v : Value} {ps : List Nat} {S : Sh} (h : MineS W w p O v ps S) (hB : Below w.heap.size w w') : MineS W w' p O v ps S :=
  ⟨h.is.below hB, h.ge, h.bel.trans (hB.mono h.bel.size)⟩
theorem MineS.step {W w w' : World} {p : Nat} {O O' : Nat → Nat} {v v' : Value} {ps ps' : List Nat} {S S' : Sh} (h : MineS W w p O v ps S) (hI : IsS w' p O' v' ps' S') (hG : Grow O O' w w') : MineS W w' p O' v' ps' S' := by
  have hs := h.bel.size
  refine ⟨hI, fun k hk => ?_, h.bel.trans (hG.only.below hs (fun k hk e => by have := h.ge k e; omega))⟩
  rcases hG.new k hk with e | e
  · exact h.ge k e
  · omega
/-- A shaper without lines. -/
theorem isS_new (w : World) (t : Nat) :
    MineS w (w.alloc (.cells #[.int .u64 t, .slice none 0 0] 73)) w.heap.size (fun k => if k = w.heap.size then 1 else 0) (.slice none 0 0) [] ⟨t, []⟩ := by
  refine ⟨⟨alloc_block_new _ _, ⟨rfl, .inl ⟨rfl, rfl⟩⟩, rfl, fun c L lp hc => by simp at hc, by simp, fun k hk => (by cases hk), fun k hk => ?_⟩, fun k hk => ?_, (Below.refl _ _).alloc (Nat.le_refl _) _⟩
  · by_cases e : k = w.heap.size
    · subst e; simp
    · simp [e] at hk
  · by_cases e : k = w.heap.size
    · omega
    · simp [e] at hk
def NRel (W : World) (t p : Nat) (l : List Cl) (iv : Value) (w : World) : Prop :=
  ∃ k : Nat, ∃ O v ps, iv = .int .i64 k ∧ k ≤ l.length ∧ MineS W w p O v ps ⟨t, (l.take k).map (newLn · t)⟩ ∧ ∀ j x, j < k → l[j]? = some x → x.may = true
def NewOk (W : World) (t : Nat) (l : List Cl) (e : Ending) (w : World) : Prop :=
  (l.all Cl.may = false ∧ e = .returned (.tuple #[.pointer none, .int .i64 2]) ∧ Below W.heap.size W w) ∨
  (l.all Cl.may = true ∧ ∃ p O v ps, e = .returned (.tuple #[ptr p, .int .i64 0]) ∧ MineS W w p O v ps ⟨t, l.map (newLn · t)⟩)

theorem one_new_at {w : World} {o : Obj} {n : Nat} (hn : (w.alloc o).heap.size = n) (x : Value) (e : TypeId) : ∀ j u, [x][j]? = some u → ((w.alloc o).alloc (.cells #[x] e)).cell? ((⟨n, 0, none⟩ : Addr).add j) = some u := by
  subst hn; exact one_new _ x e
theorem alloc_size (w : World) (o : Obj) : (w.alloc o).heap.size = w.heap.size + 1 := by simp
end Go.Proofs.Ythipfcmjpgbemaa

/- New: walked. -/
namespace Go.Proofs.Ythipfcmjpgbemaa
open Go.RowKit

theorem nrel_push {W wr wa w2 w3 w' : World} {t p k bp qp : Nat} {O r : Nat → Nat} {a a2 : Option Addr} {c c2 : Nat} {ps : List Nat} {l : List Cl} {x : Cl}
    (hM : MineS W wr p O (.slice a k c) ps ⟨t, (l.take k).map (newLn · t)⟩) (hmay : ∀ j x, j < k → l[j]? = some x → x.may = true) (hx : l[k]? = some x) (hmx : x.may = true) (ek : ((l.take k).map (newLn · t)).length = k)
    (hA : Below wr.heap.size wr wa) (hQ : MineQ wa w2 qp r (empty x.items.toNat x.size.toNat)) (hB3 : Below w2.heap.size w2 w3)
    (hBL : Below w2.heap.size w2 ((w3.alloc (.cells ((newLn x t).cells bp qp) 88)).alloc (.cells #[ptr w3.heap.size] 77)))
    (hb : IsB w3 bp ⟨x.rate, x.burst, t, x.burst⟩) (hbp : w2.drew.heap.size ≤ bp)
    (hown : w'.ownsRow 0 77 1 (.slice a2 (k + 1) c2) (k + 1) (ps.map ptr ++ [ptr w3.heap.size]))
    (hg : ((w3.alloc (.cells ((newLn x t).cells bp qp) 88)).alloc (.cells #[ptr w3.heap.size] 77)).grownBy w' (Value.slice a k c).ownBlock)
    (hv : (Value.slice a2 (k + 1) c2).ownBlock = (Value.slice a k c).ownBlock ∨ (Value.slice a2 (k + 1) c2).ownBlock = some ((w3.alloc (.cells ((newLn x t).cells bp qp) 88)).alloc (.cells #[ptr w3.heap.size] 77)).heap.size) :
    NRel W t p l (.int .i64 (k + 1 : Nat)) (w'.setCell ⟨p, 1, none⟩ (.slice a2 (k + 1) c2)) := by
  have hbl := lt_of_obj hb
  have hql := hQ.q.lt
  have hs1 := hA.size
  have hs2 := hQ.bel.size
  have hs3 := hB3.size
  have hbp : w2.heap.size ≤ bp := hbp
  have hB5 : Below w3.heap.size w3 ((w3.alloc (.cells ((newLn x t).cells bp qp) 88)).alloc (.cells #[ptr w3.heap.size] 77)) := ((Below.refl _ w3).alloc (Nat.le_refl _) _).alloc (by rw [alloc_size]; omega) _
  obtain ⟨O', hI, hGr⟩ := hM.is.push (L := newLn x t) (lp := w3.heap.size) (bp := bp) (qp := qp) (r := r) (w6 := w') (v2 := .slice a2 (k + 1) c2)
    ((hA.trans (hQ.bel.mono hs1)).trans (hBL.mono (by omega)))
    ((alloc_block_old _ (by rw [alloc_size]; omega)).trans (alloc_block_new w3 _)) ((hB5.block bp hbl).trans hb) (hQ.q.below hBL)
    (by omega) (by omega) (fun k hk => by have := hQ.new k hk; omega) (by omega)
    (by rcases Nat.eq_zero_or_pos (r w3.heap.size) with e | e
        · exact e
        · have := hql w3.heap.size (by omega); omega)
    (by rcases Nat.eq_zero_or_pos (r bp) with e | e
        · exact e
        · have := hql bp (by omega); omega)
    (by rw [List.map_append]; show w'.ownsRow 0 77 1 (.slice a2 (k + 1) c2) (((l.take k).map (newLn · t)).length + 1) _; rw [ek]; exact hown) hg hv
  have hl := (List.getElem?_eq_some_iff.1 hx).1
  refine ⟨k + 1, O', .slice a2 (k + 1) c2, ps ++ [w3.heap.size], rfl, hl, ?_, fun j y hj hy => ?_⟩
  · have h := hM.step hI hGr
    rw [List.take_add_one, hx, List.map_append]
    exact h
  · by_cases e : j = k
    · subst e
      rw [hx] at hy
      injection hy with hy
      exact hy ▸ hmx
    · exact hmay j y (by omega) hy

set_option maxHeartbeats 4000000 in
set_option maxRecDepth 100000 in
theorem new_walk {t : Nat} {w : World} {v : Value} {l : List Cl} (hl : Cls w v l) (h0 : 0 < l.length) (h8 : l.length ≤ 8) (ht : t < 18446744073709551616) :
    Calls Try.prog 10 #[.int .u64 t, v] w (NewOk w t l) := by
  obtain ⟨a, c, rfl, hc, hx⟩ := hl.sh
  obtain ⟨b, o, rfl, hb, hcs⟩ := hx h0
  have h1 : ¬ (8 : Int) < (l.length : Int) := by omega
  have h2 : ¬ (l.length : Int) = 0 := by omega
  have h3 : ¬ l.length = 0 := by omega
  have HS0 := Lib.hid (isS_new w t)
  have HL := Lib.hid (And.intro hl (And.intro hb hcs))
  clear hl hx hb hcs
  go_enter Try.func10, Try.ntmps10
  go_wp2_with fail
  obtain ⟨p, hp⟩ : ∃ p, w.heap.size = p := ⟨_, rfl⟩
  rw [hp]
  have HP : Hid (w.heap.size = p) := hp
  go_loopw [24] (NRel w t p l) (fun i _ => l.length - (intOf i).toNat)
  case atStart => exact ⟨0, _, _, _, rfl, Nat.zero_le _, by rw [← hp]; exact HS0.out, fun j x hj => by omega⟩
  case round =>
    obtain ⟨k, O, v, ps, rfl, hk, hM, hmay⟩ := hrel
    by_cases hlt : k < l.length
    · obtain ⟨x, hxk⟩ : ∃ x, l[k]? = some x := ⟨_, List.getElem?_eq_getElem hlt⟩
      obtain ⟨q0, q1, q2, q3⟩ := HL.out.2.2 k x hxk
      have q0 := (hM.bel.cell (p := ⟨b, _, none⟩) HL.out.2.1).trans q0
      have q1 := (hM.bel.cell (p := ⟨b, _, none⟩) HL.out.2.1).trans q1
      have q2 := (hM.bel.cell (p := ⟨b, _, none⟩) HL.out.2.1).trans q2
      have q3 := (hM.bel.cell (p := ⟨b, _, none⟩) HL.out.2.1).trans q3
      have hki : (k : Int) < (l.length : Int) := by omega
      have HM := Lib.hid (And.intro hM (And.intro hmay hxk))
      clear hM hmay hxk
      go_wp2_with fail
      have hA := (Below.refl wr.heap.size wr).alloc (Nat.le_refl _) (.cells #[.int .u64 x.rate, .int .u64 x.burst, .int .i64 x.items, .int .i64 x.size] 46)
      have hgx := alloc_block_new wr (.cells #[.int .u64 x.rate, .int .u64 x.burst, .int .i64 x.items, .int .i64 x.size] 46)
      have HA := Lib.hid (And.intro hA hgx)
      clear hA hgx q0 q1 q2 q3
      generalize wr.alloc (.cells #[.int .u64 x.rate, .int .u64 x.burst, .int .i64 x.items, .int .i64 x.size] 46) = wa at *
      obtain ⟨bx, hbx⟩ : ∃ bx, wr.heap.size = bx := ⟨_, rfl⟩
      rw [hbx] at HA ⊢
      have hno : x.may = false → l.all Cl.may = false := fun h => by
        refine List.all_eq_false.2 ⟨x, List.mem_of_getElem? HM.out.2.2, ?_⟩
        rw [h]
        decide
      by_cases hbad : x.items < 0 ∨ x.size < 0 ∨ 65536 < x.items
      · refine (new_bad x.items x.size hbad wa).mono ?_
        rintro e w2 ⟨rfl, rfl⟩
        have hmf : x.may = false := by
          unfold Cl.may
          rcases hbad with h | h | h
          · rw [show decide (0 ≤ x.items) = false from decide_eq_false (by omega)]; rfl
          · rw [show decide (0 ≤ x.size) = false from decide_eq_false (by omega)]; simp
          · rw [show decide (x.items ≤ 65536) = false from decide_eq_false (by omega)]; simp
        have hall := hno hmf
        have hB := HM.out.1.bel.trans ((hbx ▸ HA.out.1).mono HM.out.1.bel.size)
        have HB := Lib.hid (And.intro hall hB)
        clear hall hB hmf hno hbad
        go_wp2_with fail
        go_ret2
        exact .inl ⟨HB.out.1, rfl, HB.out.2⟩
      · have hi0 : 0 ≤ x.items := by omega
        have hz0 : 0 ≤ x.size := by omega
        have hxo := HL.out.1.ok x (List.mem_of_getElem? HM.out.2.2)
        have hq := new_q x.items.toNat x.size.toNat (by omega) (by have := hxo.size; omega) wa
        rw [Int.toNat_of_nonneg hi0, Int.toNat_of_nonneg hz0] at hq
        refine hq.mono ?_
        rintro e w2 ⟨qp, r, rfl, hQ⟩
        have hgx2 := (hQ.bel.block _ (lt_of_obj HA.out.2)).trans HA.out.2
        have x0 : w2.cell? ⟨bx, 0, none⟩ = some (.int .u64 x.rate) := cell_of_block hgx2 0
        have x1 : w2.cell? ⟨bx, 1, none⟩ = some (.int .u64 x.burst) := cell_of_block hgx2 1
        have HQ := Lib.hid (And.intro hQ hgx2)
        clear hq hQ hgx2
        by_cases hbu : x.burst < 2048
        · have hall := hno (by unfold Cl.may; rw [show decide (2048 ≤ x.burst) = false from decide_eq_false (by omega)]; simp)
          have hB := (HM.out.1.bel.trans ((hbx ▸ HA.out.1).mono HM.out.1.bel.size)).trans (HQ.out.1.bel.mono (Nat.le_trans HM.out.1.bel.size (hbx ▸ HA.out.1).size))
          have HB := Lib.hid (And.intro hall hB)
          have hbi : (x.burst : Int) < 2048 := by omega
          clear hall hB hno
          go_wp2_with fail
          go_ret2
          exact .inl ⟨HB.out.1, rfl, HB.out.2⟩
        · have hbi : ¬ (x.burst : Int) < 2048 := by omega
          have hM2 := (HM.out.1.below ((hbx ▸ HA.out.1 : Below wr.heap.size wr wa))).below HQ.out.1.bel
          obtain ⟨va, vc, ev⟩ := own_shape hM2.is.row
          have p1 : w2.cell? ⟨p, 1, none⟩ = some v := hM2.is.c1
          have hw2 := lt_of_obj hM2.is.blk
          have ek : ((l.take k).map (newLn · t)).length = k := by rw [List.length_map, List.length_take]; omega
          have ev : v = .slice va k vc := by rw [ev]; show Value.slice va ((l.take k).map (newLn · t)).length vc = _; rw [ek]
          rw [ev] at p1
          obtain ⟨i0, hi0, hz0, hz1, hz2⟩ := info_parts info_lp
          have hM2' := hM2
          rw [ev] at hM2'
          have HR3 : Hid (∀ z, Below w2.heap.size w2 z → z.ownsRow 0 77 1 (.slice va k vc) k (ps.map ptr)) := fun z hz => by
            have h := (hM2'.is.below hz).row
            show z.ownsRow 0 77 1 (.slice va k vc) k (ps.map ptr)
            rwa [show (Sh.mk t ((l.take k).map (newLn · t))).ls.length = k from ek] at h
          have HM2 := Lib.hid hM2'
          have hpl := lt_of_obj hM2'.is.blk
          have hpne : bx ≠ p := fun e => by have := HM.out.1.is.lt p (by rw [HM.out.1.is.op]; decide); omega
          have hpne' : p ≠ bx := fun e => hpne e.symm
          have hpo : Hid (∀ k', (Value.slice va k vc).ownBlock = some k' → k' ≠ p) := fun k' h e => by
            have := hM2'.is.ov k' h; rw [e, hM2'.is.op] at this; cases this
          have hbo : Hid (∀ k', (Value.slice va k vc).ownBlock = some k' → k' ≠ bx) := fun k' h e => by
            have := HM.out.1.is.lt k' (by rw [show v = _ from ev] at HM; rw [HM.out.1.is.ov k' h]; decide); omega
          have hmx : x.may = true := by
            unfold Cl.may
            rw [decide_eq_true (show 0 ≤ x.items by omega), decide_eq_true (show x.items ≤ 65536 by omega), decide_eq_true (show 0 ≤ x.size by omega), decide_eq_true (show 2048 ≤ x.burst by omega)]
            rfl
          have HMS : Hid (MineS w wr p O (.slice va k vc) ps ⟨t, (l.take k).map (newLn · t)⟩) := by
            have h := HM.out.1
            rw [ev] at h
            exact Lib.hid h
          clear hM2 hM2' hno hbad hxo
          go_wp2_with fail
          go_region_law (first
            | (refine step_append_row rfl (.tmp 47) (.tmp 57) 71 rfl 77 i0 (.pointer none) 1 8 Try.underlying71 hi0 hz0 hz1 hz2 rfl (by decide) (.slice va k vc) k (ps.map ptr) (by simp [go_sem]) (HR3.out _ (HBL.out _ _)) ⟨w3.heap.size + 1, 0, none⟩ 1 1 [.pointer (some ⟨w3.heap.size, 0, none⟩)] (by simp [go_sem]) rfl (one_new_at (alloc_size w3 _) _ _) (fun u hu => by simp at hu; rw [hu]; rfl) (by unfold maxLen; omega) (by omega) ?_
               intro v' w' hown' hg' hb'
               obtain ⟨va2, vc2, rfl⟩ := own_shape hown'
               have hb6 : w'.heap[p]? = some (.cells #[.int .u64 t, .slice va k vc] 73 (0, 0)) := grown_keep hg' (((HBL.out _ _).block p hpl).trans HM2.out.is.blk) (fun h => hpo.out _ h rfl)
               have p6 : w'.cell? ⟨p, 1, none⟩ = some (.slice va k vc) := cell_of_block hb6 1
               have f6 : w'.frozen? ⟨p, 1, none⟩ = false := free_of_block hb6 1
               have hbx6 := grown_keep hg' (((HBL.out _ _).block bx (lt_of_obj HQ.out.2)).trans HQ.out.2) (fun h => hbo.out _ h rfl)
               have y0 : w'.cell? ⟨bx, 0, none⟩ = some (.int .u64 x.rate) := cell_of_block hbx6 0
               have y1 : w'.cell? ⟨bx, 1, none⟩ = some (.int .u64 x.burst) := cell_of_block hbx6 1
               clear hbx6
               have HR : Hid (NRel w t p l (.int .i64 (k + 1 : Nat)) (w'.setCell ⟨p, 1, none⟩ (.slice va2 (k + 1) vc2))) := Lib.hid (nrel_push HMS.out HM.out.2.1 HM.out.2.2 hmx ek (hbx ▸ HA.out.1) HQ.out.1 HB3.out (HBL.out _ _) HBP.out.2 HBP.out.1 hown' hg' hb')
               clear hown' hg' hb' hb6)
            | (go_simp; go_at_call 27; with_reducible refine Calls.mono (bnew_is x.rate x.burst t _) ?_; rintro e w3 ⟨bp, rfl, hbp, hb3, hO3⟩; dsimp only
               have HB3 : Hid (Below w2.heap.size w2 w3) := (Below.refl w2.heap.size w2).drew.trans (hO3.below (Nat.le_refl _) (fun _ _ h => h))
               have HBL : Hid (∀ o1 o2, Below w2.heap.size w2 ((w3.alloc o1).alloc o2)) := fun o1 o2 => (HB3.out.alloc HB3.out.size o1).alloc (Nat.le_trans HB3.out.size (by rw [alloc_size]; omega)) o2
               have z0 := (HB3.out.cell (p := ⟨bx, 0, none⟩) (lt_of_obj HQ.out.2)).trans x0
               have z1 := (HB3.out.cell (p := ⟨bx, 1, none⟩) (lt_of_obj HQ.out.2)).trans x1
               have p3 := (HB3.out.cell (p := ⟨p, 1, none⟩) hpl).trans p1
               have pa1 : ∀ o1, (w3.alloc o1).cell? ⟨p, 1, none⟩ = some (.slice va k vc) := fun o1 => ((HB3.out.alloc HB3.out.size o1).cell (p := ⟨p, 1, none⟩) hpl).trans p1
               have pa2 : ∀ o1 o2, ((w3.alloc o1).alloc o2).cell? ⟨p, 1, none⟩ = some (.slice va k vc) := fun o1 o2 => ((HBL.out o1 o2).cell (p := ⟨p, 1, none⟩) hpl).trans p1
               have HBP := Lib.hid (And.intro hbp hb3)
               clear hbp hb3 hO3))
          all_goals
            clear HBL HM2 HR3 HBP HB3
            go_wp2_with fail
            go_roundw
            case rel => first | exact HR.out | ((repeat apply Exists.intro); exact ⟨HR.out, rfl⟩)
            case measure => simp [intOf]; omega
    · obtain rfl : k = l.length := by omega
      have HM := Lib.hid (And.intro hM hmay)
      clear hM hmay
      go_wp2_with fail
      go_ret2
      refine .inr ⟨?_, p, O, v, ps, rfl, ?_⟩
      · refine List.all_eq_true.2 fun x hx => ?_
        obtain ⟨j, hj⟩ := List.mem_iff_getElem?.1 hx
        exact HM.out.2 j x (List.getElem?_eq_some_iff.1 hj).1 hj
      · have := HM.out.1
        rwa [List.take_length] at this
end Go.Proofs.Ythipfcmjpgbemaa
