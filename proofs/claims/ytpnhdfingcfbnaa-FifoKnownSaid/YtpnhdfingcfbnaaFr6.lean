/- FifoPlays: its state between calls. -/
import Derived.Test.YtpnhdfingcfbnaaFr5
namespace Go.Proofs.Ytpnhdfingcfbnaa
open Go.RowKit

theorem blk_ne {w : World} {a b : Nat} {c d : Array Value} {s t : TypeId} {f g : Nat × Nat} (ha : w.heap[a]? = some (.cells c s f)) (hb : w.heap[b]? = some (.cells d t g)) (hne : s ≠ t) : a ≠ b := by
  intro e
  subst e
  rw [ha] at hb
  injection hb with hb
  injection hb with _ e _
  exact hne e

theorem RL.ty {w : World} {B : Nat} {v : Value} {L : List It} (h : RL w B v L) : ∀ k, v.ownBlock = some k → ∃ c, w.heap[k]? = some (.cells c 42 (0, 0)) := by
  rcases h with ⟨rfl, _⟩ | ⟨g, o, c, cur, rfl, hg, hh, _⟩
  · intro k hk; simp [Value.ownBlock] at hk
  · intro k hk
    obtain rfl : g = k := by injection hk
    exact ⟨cur, hh⟩

/-- A queue of the call's own, and the document's, whose value lies in a block. -/
structure PSt (W w : World) (p b : Nat) (v : Value) (r : Nat → Nat) (Q R : QS) : Prop where
  m : MineQ W w p r Q
  box : w.heap[b]? = some (.cells #[v, .int .i64 R.items, .int .i64 R.bound, .int .u64 R.drops] 32 (0, 0))
  bs : W.heap.size ≤ b
  rb : r b = 0
  rl : RL w W.heap.size v R.L
  vr : ∀ j, v.ownBlock = some j → r j = 0

section
variable {W w w' : World} {p b : Nat} {v : Value} {r : Nat → Nat} {Q R : QS}
theorem PSt.vb (h : PSt W w p b v r Q R) : ∀ j, v.ownBlock = some j → j ≠ b := fun j hj => by
  obtain ⟨c, hc⟩ := h.rl.ty j hj
  exact blk_ne hc h.box (by decide)
theorem PSt.other (h : PSt W w p b v r Q R) {S : Nat → Prop} (hO : Only S w w') (hS : ∀ k, S k → W.heap.size ≤ k) (h1 : ∀ k, r k ≠ 0 → ¬ S k) (h2 : ¬ S b) (h3 : ∀ j, v.ownBlock = some j → ¬ S j) : PSt W w' p b v r Q R :=
  ⟨⟨h.m.q.keep hO h1, h.m.new, h.m.bel.trans (hO.below h.m.bel.size (fun k hk e => by have := hS k e; omega))⟩, hO.keep h.box h2, h.bs, h.rb, h.rl.keep hO h3, h.vr⟩
theorem PSt.below (h : PSt W w p b v r Q R) (hB : Below w.heap.size w w') : PSt W w' p b v r Q R := h.other (Below.only hB (fun _ => False)) (fun _ h => h.elim) (fun _ _ h => h) (fun h => h) (fun _ _ h => h)
theorem PSt.alloc (h : PSt W w p b v r Q R) (o : Obj) : PSt W (w.alloc o) p b v r Q R := h.below ((Below.refl _ _).alloc (Nat.le_refl _) _)
theorem PSt.q {r' : Nat → Nat} {Q' : QS} (h : PSt W w p b v r Q R) (hQ : Que w' p r' Q') (hO : Only (fun k => r k ≠ 0) w w') (hr : ∀ k, r' k ≠ 0 → r k ≠ 0 ∨ w.heap.size ≤ k) : PSt W w' p b v r' Q' R := by
  have hz : ∀ j, j < w.heap.size → r j = 0 → r' j = 0 := fun j hj h0 => by
    rcases Nat.eq_zero_or_pos (r' j) with e | e
    · exact e
    · rcases hr j (by omega) with h1 | h1
      · exact absurd h0 h1
      · omega
  exact ⟨h.m.step hQ hO hr, hO.keep h.box (fun e => e h.rb), h.bs, hz b (lt_of_obj h.box) h.rb, h.rl.keep hO (fun k hk e => e (h.vr k hk)), fun j hj => hz j (h.rl.ge j hj).2 (h.vr j hj)⟩
/-- Another value in the box. -/
theorem PSt.put {v' : Value} {R' : QS} (h : PSt W w p b v r Q R) (hb : w'.heap[b]? = some (.cells #[v', .int .i64 R'.items, .int .i64 R'.bound, .int .u64 R'.drops] 32 (0, 0))) (hO : Only (· = b) w w') (hR : RL w W.heap.size v' R'.L) (hv : ∀ j, v'.ownBlock = some j → r j = 0) : PSt W w' p b v' r Q R' := by
  have hne : ∀ j, v'.ownBlock = some j → ¬ j = b := fun j hj => by
    obtain ⟨c, hc⟩ := hR.ty j hj
    exact blk_ne hc h.box (by decide)
  exact ⟨⟨h.m.q.keep hO (fun k hk e => by subst e; exact hk h.rb), h.m.new, h.m.bel.trans (hO.below h.m.bel.size (fun k hk e => by have := h.bs; omega))⟩, hb, h.bs, h.rb, hR.keep hO hne, hv⟩
theorem PSt.rq (h : PSt W w p b v r Q Q) : RQ w W.heap.size v Q := h.m.q.rq h.rl
end

/-- Ahead of each round. -/
def PRel (W : World) (p b n : Nat) (i : Value) (w : World) : Prop :=
  ∃ (k : Nat) (r : Nat → Nat) (Q : QS) (v : Value), i = .int .i64 k ∧ k ≤ n ∧ Q.drops ≤ k ∧ PSt W w p b v r Q Q
/-- Behind the call itself. -/
def PMid (W : World) (p b k : Nat) (w : World) : Prop :=
  ∃ (r : Nat → Nat) (Q : QS) (v : Value), Q.drops ≤ k + 1 ∧ PSt W w p b v r Q Q

theorem set4_block {w : World} {b : Nat} {a0 a1 a2 a3 : Value} {T : TypeId} (h : w.heap[b]? = some (.cells #[a0, a1, a2, a3] T (0, 0))) (x0 x1 x2 x3 : Value) :
    ((((w.setCell ⟨b, 0, none⟩ x0).setCell ⟨b, 1, none⟩ x1).setCell ⟨b, 2, none⟩ x2).setCell ⟨b, 3, none⟩ x3).heap[b]? = some (.cells #[x0, x1, x2, x3] T (0, 0)) ∧
      Only (· = b) w ((((w.setCell ⟨b, 0, none⟩ x0).setCell ⟨b, 1, none⟩ x1).setCell ⟨b, 2, none⟩ x2).setCell ⟨b, 3, none⟩ x3) :=
  ⟨setCell_block (setCell_block (setCell_block (setCell_block h 0 x0) 1 x1) 2 x2) 3 x3,
    Only.setCell (S := (· = b)) (p := ⟨b, 3, none⟩) (Only.setCell (S := (· = b)) (p := ⟨b, 2, none⟩) (Only.setCell (S := (· = b)) (p := ⟨b, 1, none⟩) (Only.setCell (S := (· = b)) (p := ⟨b, 0, none⟩) (Only.refl _ w) (fun _ => rfl) x0) (fun _ => rfl) x1) (fun _ => rfl) x2) (fun _ => rfl) x3⟩
theorem set1_block {w : World} {b : Nat} {a0 a1 a2 a3 : Value} {T : TypeId} (h : w.heap[b]? = some (.cells #[a0, a1, a2, a3] T (0, 0))) (x0 : Value) :
    (w.setCell ⟨b, 0, none⟩ x0).heap[b]? = some (.cells #[x0, a1, a2, a3] T (0, 0)) ∧ Only (· = b) w (w.setCell ⟨b, 0, none⟩ x0) :=
  ⟨setCell_block h 0 x0, Only.setCell (S := (· = b)) (p := ⟨b, 0, none⟩) (Only.refl _ w) (fun _ => rfl) x0⟩

theorem new_in {w w' : World} {cs : Array Value} {T : TypeId} (h : Below (w.alloc (.cells cs T)).drew.heap.size (w.alloc (.cells cs T)).drew w') : w'.heap[w.heap.size]? = some (.cells cs T (0, 0)) :=
  (h.block w.heap.size (lt_of_obj (w := w.alloc (.cells cs T)) (alloc_block_new w _))).trans (alloc_block_new w _)
theorem new_in' {w w' : World} {cs : Array Value} {T : TypeId} (h : Below (w.alloc (.cells cs T)).heap.size (w.alloc (.cells cs T)) w') : w'.heap[w.heap.size]? = some (.cells cs T (0, 0)) :=
  (h.block w.heap.size (lt_of_obj (w := w.alloc (.cells cs T)) (alloc_block_new w _))).trans (alloc_block_new w _)

/-- Behind the document's push: its answer lies in a block. -/
def DRel (W w5 : World) (v : Value) (Q' : QS) (c : Int) (u18 u19 : Value) (w : World) : Prop :=
  ∃ g a k, u18 = .pointer (some ⟨g, 0, none⟩) ∧ u19 = .int .i64 c ∧ w.heap[g]? = some (.cells #[.slice a Q'.L.length k, .int .i64 Q'.items, .int .i64 Q'.bound, .int .u64 Q'.drops] 32 (0, 0)) ∧
    RL w W.heap.size (.slice a Q'.L.length k) Q'.L ∧ Below w5.heap.size w5 w ∧ (∀ j, (Value.slice a Q'.L.length k).ownBlock = some j → v.ownBlock = some j ∨ w5.heap.size ≤ j) ∧ w5.heap.size ≤ g

/-- Bytes appended onto nothing. -/
theorem wpList_append_h8 {w : World} {ops : Array Oper} {rest : List Oper} {op : Oper} {a : Act} {Q : Exit → Act → World → Prop} (hgd : op.guard = none) (s x : Operand)
    (ho : op.op = .call { callee := .builtin .append, args := #[s, x], argTypes := #[35, 35] })
    {v : Value} {zs : List Nat} (hs : a.eval s = .slice none 0 0) (hx : a.eval x = v) (hR : Holds8 w v zs) (hlen : zs.length ≤ 1000000)
    (h : ∀ v' w', Own8 w' w.heap.size v' zs → Below w.heap.size w w' → wpList Try.prog ops Q rest (a.put op.dst v') w') :
    wpList Try.prog ops Q (op :: rest) a w := by
  obtain ⟨i0, hi, hz0, hz1, hz2⟩ := info_parts info_u8c
  obtain ⟨ao, cap, hv, hc, hn, hlt, hx8⟩ := hR
  subst hv
  cases ao with
  | none =>
    have hz : zs = [] := List.eq_nil_of_length_eq_zero (by have := hn rfl; omega)
    subst hz
    obtain rfl : cap = 0 := hn rfl
    exact wpList_append_own_none hgd s x _ ho w.heap.size 5 i0 1 Try.underlying35 hi _ 0 [] hs (World.ownsRow_nil w _ _ _) hx (h _ _ (World.ownsRow_nil w _ _ _) (Below.refl _ _))
  | some ad =>
    refine wpList_append_own w hgd s x _ ho w.heap.size 5 i0 (.int .u8 0) 1 1 Try.underlying35 hi hz0 hz1 hz2 rfl (by decide) (.slice none 0 0) 0 [] hs (World.ownsRow_nil w _ _ _) ad zs.length cap (u8s zs) hx (by simp) (fun j u hu => ?_) u8s_one (by unfold maxLen; omega) (by omega) (Nat.le_refl _) (fun v' w' ho' hg' _ => h v' w' (by simpa using ho') ?_)
    · have hj : j < zs.length := by
        have := (List.getElem?_eq_some_iff.1 hu).1
        simpa using this
      obtain ⟨b, o, hb, hcc⟩ := hx8 (by omega)
      injection hb with hb
      subst hb
      rw [u8s_get zs j hj] at hu
      rw [Addr.add_lit, hcc j hj, hu]
    · exact ⟨hg'.os, hg'.tape, hg'.output, hg'.size, fun k hk => hg'.block k hk (by simp [Value.ownBlock])⟩
end Go.Proofs.Ytpnhdfingcfbnaa
