/-
  Words for the walks of the laws on decisions: how long a decided shard is. No condition.
  Facts carried along a region that makes literals in an open order: each lemma undoes one step of the world. No condition.
  Two appends of a region that makes literals in an open order: what is known behind each, whatever the order. Condition: few numbers.
-/
import Derived.Test.YtgnhanbdfohjaaaK5
namespace Go.Proofs.Ytgnhanbdfohjaaa
set_option linter.unusedVariables false
set_option linter.unusedSimpArgs false
open Go.RowKit

theorem dec_mem {rs : List Rec} {t : Int} {commit : Bool} : ∀ r ∈ decL rs t commit, r ∈ rs ∨ r.us = [] := by
  intro r hr
  unfold decL at hr
  split at hr
  · split at hr
    · exact .inl hr
    · unfold addL at hr
      split at hr
      · rcases List.mem_append.1 hr with h | h
        · exact .inl h
        · rw [List.mem_singleton] at h; subst h; exact .inr rfl
      · exact .inl hr
  · cases hr
theorem dec_len (rs : List Rec) (t : Int) (commit : Bool) : (decL rs t commit).length ≤ rs.length + 1 := by
  unfold decL
  split
  · split
    · omega
    · unfold addL; split
      · simp
      · omega
  · simp
theorem dec_n {rs rs2 : List RecC} {t : Int} {commit : Bool} {W W' : World} {lo lo' n n2 : Nat} {A A' : Option Addr} (h : abs rs2 = decL (abs rs) t commit) (h2 : Recs W' lo' A' n2 rs2) (h1 : Recs W lo A n rs) (hn : n ≤ 31) : n2 ≤ 32 := by
  have := dec_len (abs rs) t commit
  rw [← h, abs_len, abs_len, h1.1.1, h2.1.1] at this
  omega
theorem dec_ns {rs rs2 : List RecC} {t : Int} {commit : Bool} {W W' : World} {lo lo' n n2 : Nat} {A A' : Option Addr} (h : abs rs2 = decL (abs rs) t commit) (h2 : Recs W' lo' A' n2 rs2) (h1 : Recs W lo A n rs) (hs : ∀ r ∈ rs, r.n ≤ 4) : ∀ r ∈ rs2, r.n ≤ 1000 := by
  intro r hr
  have hm : r.ab ∈ decL (abs rs) t commit := by rw [← h]; exact List.mem_map_of_mem hr
  have e : r.us.length = r.n := (h2.2 r hr).1.1
  rcases dec_mem _ hm with hx | hx
  · obtain ⟨q, hq, he⟩ := List.mem_map.1 hx
    have e2 : q.us.length = q.n := (h1.2 q hq).1.1
    have e3 : q.us = r.us := congrArg Rec.us he
    have := hs q hq
    rw [e3] at e2; omega
  · have e3 : r.us = [] := hx
    rw [e3] at e
    simp at e; omega
theorem abs_n {rs rs2 : List RecC} {W W' : World} {lo lo' n n2 : Nat} {A A' : Option Addr} (h : abs rs2 = abs rs) (h2 : Recs W' lo' A' n2 rs2) (h1 : Recs W lo A n rs) : n2 = n := by
  have : (abs rs2).length = (abs rs).length := by rw [h]
  rw [abs_len, abs_len, h1.1.1, h2.1.1] at this
  exact this
theorem abs_ns {rs rs2 : List RecC} {W W' : World} {lo lo' n n2 : Nat} {A A' : Option Addr} (h : abs rs2 = abs rs) (h2 : Recs W' lo' A' n2 rs2) (h1 : Recs W lo A n rs) (hs : ∀ r ∈ rs, r.n ≤ 1000) : ∀ r ∈ rs2, r.n ≤ 1000 := by
  intro r hr
  have hm : r.ab ∈ abs rs := by rw [← h]; exact List.mem_map_of_mem hr
  have e : r.us.length = r.n := (h2.2 r hr).1.1
  obtain ⟨q, hq, he⟩ := List.mem_map.1 hm
  have e2 : q.us.length = q.n := (h1.2 q hq).1.1
  have e3 : q.us = r.us := congrArg Rec.us he
  have := hs q hq
  rw [e3] at e2; omega

end Go.Proofs.Ytgnhanbdfohjaaa

namespace Go.Proofs.Ytgnhanbdfohjaaa
set_option linter.unusedVariables false
set_option linter.unusedSimpArgs false
open Go.RowKit

theorem heap_new' {W : World} {o : Obj} {g : Nat} (h : W.heap.size = g) : (W.alloc o).heap[g]? = some o := by subst h; exact heap_alloc_new W o
theorem heap_keep {W : World} {o o' : Obj} {g : Nat} (h : W.heap[g]? = some o') : (W.alloc o).heap[g]? = some o' := (Below.heap_alloc _ _ _ (heap_lt h)).trans h
theorem heap_keep_drew {W : World} {o' : Obj} {g : Nat} (h : W.heap[g]? = some o') : W.drew.heap[g]? = some o' := h
theorem bel_alloc {W W' : World} {o : Obj} (h : Below (W.alloc o).heap.size (W.alloc o) W') : Below W.heap.size W W' := ((Below.refl _ _).alloc (Nat.le_refl _) o).trans (h.mono (by simp))
theorem bel_drew {W W' : World} (h : Below W.drew.heap.size W.drew W') : Below W.heap.size W W' := ⟨h.os, h.tape, h.output, h.size, h.block⟩
theorem keep_of {W W' : World} (h : Below W.heap.size W W') : ∀ (g : Nat) (o : Obj), W.heap[g]? = some o → W'.heap[g]? = some o := fun g o hh => (h.block g (heap_lt hh)).trans hh
theorem keep_grown {W W' : World} {e : Nat} {o o' : Obj} (hg : W.grownBy W' (Value.slice (some ⟨e, 0, none⟩) 0 0).ownBlock) (he : W.heap[e]? = some o') (hne : o ≠ o') : ∀ g : Nat, W.heap[g]? = some o → W'.heap[g]? = some o := fun g hh =>
  (hg.block g (heap_lt hh) (fun e' => by
    have e2 : some g = some e := e'
    injection e2 with e2
    subst e2
    rw [he] at hh
    injection hh with hh
    exact hne hh.symm)).trans hh
theorem below_al {C : Nat} {w W : World} (h : Below C w W) (hC : C ≤ w.heap.size) (o : Obj) : Below C w (W.alloc o) := h.alloc (Nat.le_trans hC h.size) o
theorem below_dr {C : Nat} {w W : World} (h : Below C w W) : Below C w W.drew := h.drew
theorem recs_dr {W : World} {lo n : Nat} {A : Option Addr} {rs : List RecC} (h : Recs W lo A n rs) : Recs W.drew lo A n rs := h
theorem fl_dr {α : Type} {f : α → List Value} {W : World} {lo n : Nat} {A : Option Addr} {xs : List α} (h : FlH f W lo A n xs) : FlH f W.drew lo A n xs := h
theorem own_dr {W : World} {base size n : Nat} {e : TypeId} {v : Value} {cs : List Value} (h : W.ownsRow base e size v n cs) : W.drew.ownsRow base e size v n cs := h
theorem fl_rd {α : Type} {f : α → List Value} {W : World} {lo n : Nat} {A : Option Addr} {xs : List α} (h : FlH f W lo A n xs) : Rd W lo W.heap.size A (xs.flatMap f) := h.2
theorem rd_heap {W : World} {g : Nat} {e : TypeId} {cs : List Value} (h : W.heap[g]? = some (.cells cs.toArray e (0, 0))) : Rd W g (g + 1) (some ⟨g, 0, none⟩) cs := fun _ =>
  ⟨g, 0, rfl, Nat.le_refl _, Nat.lt_succ_self _, fun j u hu => by
    rw [Nat.zero_add, cell_of_row W g j _ _ _ h]
    simpa using hu⟩
theorem cell_al {W : World} {b j : Nat} {v : Value} {o : Obj} (h : W.cell? ⟨b, j, none⟩ = some v) : (W.alloc o).cell? ⟨b, j, none⟩ = some v := (World.cell?_alloc_lt W o ⟨b, j, none⟩ (World.block_lt_of_cell? _ _ h)).trans h
theorem cell_dr {W : World} {b j : Nat} {v : Value} (h : W.cell? ⟨b, j, none⟩ = some v) : W.drew.cell? ⟨b, j, none⟩ = some v := h
theorem lt_al {W : World} {b : Nat} {o : Obj} (h : b < W.heap.size) : b < (W.alloc o).heap.size := by simp; omega
theorem cell_grown {W W' : World} {row : Option Nat} {b j : Nat} {v : Value} (hg : W.grownBy W' row) (h : W.cell? ⟨b, j, none⟩ = some v) (hne : row ≠ some b) : W'.cell? ⟨b, j, none⟩ = some v :=
  (World.cell?_of_block (hg.block b (World.block_lt_of_cell? _ _ h) (fun e => hne e.symm))).trans h
theorem own_al {W : World} {base size n : Nat} {e : TypeId} {v : Value} {cs : List Value} (h : W.ownsRow base e size v n cs) (o : Obj) : (W.alloc o).ownsRow base e size v n cs := h.alloc o
theorem size_dr (W : World) : W.drew.heap.size = W.heap.size := rfl
theorem le_al {W : World} {a : Nat} {o : Obj} (h : a ≤ W.heap.size) : a ≤ (W.alloc o).heap.size := by simp; omega
theorem le_dr {W : World} {a : Nat} (h : a ≤ W.heap.size) : a ≤ W.drew.heap.size := h
theorem comV_len (rs : List Rec) : (comV rs).length ≤ rs.length := by
  unfold comV; split
  · exact comL_len rs
  · simp
/-- where a row that is not empty lies -/
theorem dblock {W : World} {lo n : Nat} {A : Option Addr} {xs ys : List Int} {t : Int} (hx : xs = ys ++ [t]) (h : FlH ci W lo A n xs) : ∀ (b o : Nat) (s : Option Nat), A = some ⟨b, o, s⟩ → lo ≤ b ∧ b < W.heap.size := fun b o s e =>
  h.block (by rw [hx]; simp [ci]) (b := b) (o := o) (s := s.map fun _ => 0) (by rw [e]; rfl)

theorem he_of {W W' : World} {E lo hi : Nat} {D : Option Addr} (_ : W.grownBy W' (Value.slice (some ⟨E, 0, none⟩) 0 0).ownBlock) (hD : ∀ (b o : Nat) (s : Option Nat), D = some ⟨b, o, s⟩ → lo ≤ b ∧ b < hi) (hE : E < lo ∨ hi ≤ E) :
    ∀ (b o : Nat) (s : Option Nat), D = some ⟨b, o, s⟩ → (Value.slice (some ⟨E, 0, none⟩) 0 0).ownBlock ≠ some b := fun b o s e h => by
  have h1 := hD b o s e
  have h2 : E = b := by injection h
  omega

theorem cell_lit {W W' : World} {E b j : Nat} {v : Value} (hg : W.grownBy W' (Value.slice (some ⟨E, 0, none⟩) 0 0).ownBlock) (h : W.cell? ⟨b, j, none⟩ = some v) (hne : b ≠ E) : W'.cell? ⟨b, j, none⟩ = some v :=
  cell_grown hg h (fun e => by injection e with e; exact hne e.symm)
theorem below_lit {C E : Nat} {w W W' : World} (hb : Below C w W) (hg : W.grownBy W' (Value.slice (some ⟨E, 0, none⟩) 0 0).ownBlock) (hC : C ≤ w.heap.size) (hE : C ≤ E) : Below C w W' :=
  hb.grown hg (Nat.le_trans hC hb.size) (fun q hq => by have h2 : E = q := (by injection hq); omega)

end Go.Proofs.Ytgnhanbdfohjaaa

namespace Go.Proofs.Ytgnhanbdfohjaaa
set_option linter.unusedVariables false
set_option linter.unusedSimpArgs false
open Go.RowKit

theorem bel_alX {w W : World} (h : Below w.heap.size w W) (o : Obj) : Below w.heap.size w (W.alloc o) := h.alloc h.size o
theorem bel_drX {w W : World} (h : Below w.heap.size w W) : Below w.heap.size w W.drew := h.drew
/-- a row that is not empty does not lie in the block of an empty literal -/
theorem ne_lit {W : World} {g lo n : Nat} {e : TypeId} {D : Option Addr} {xs : List Int} (hE : W.heap[g]? = some (.cells #[] e (0, 0))) (hF : FlH ci W lo D n xs) (hn : xs ≠ []) : ∀ (b o : Nat) (s : Option Nat), D = some ⟨b, o, s⟩ → b ≠ g := fun b o s e1 e2 => by
  rcases xs with _ | ⟨x, xs⟩
  · exact hn rfl
  · obtain ⟨b', o', e3, -, -, hc⟩ := hF.2 (by simp [ci])
    rw [e3] at e1
    injection e1 with e1
    injection e1 with e4 e5 e6
    subst e4 e2
    have h1 := hc 0 (.int .i64 x) (by simp [ci])
    rw [cell_of_row W _ _ _ _ _ hE] at h1
    simp at h1
theorem blk_lit {W : World} {lo n : Nat} {D : Option Addr} {xs : List Int} (hF : FlH ci W lo D n xs) (hn : xs ≠ []) : ∀ (b o : Nat) (s : Option Nat), D = some ⟨b, o, s⟩ → b < W.heap.size := fun b o s e1 => by
  rcases xs with _ | ⟨x, xs⟩
  · exact absurd rfl hn
  · obtain ⟨b', o', e3, -, h2, hc⟩ := hF.2 (by simp [ci])
    rw [e3] at e1
    injection e1 with e1
    injection e1 with e4 e5 e6
    subst e4
    exact h2
/-- the append of a row to an empty literal -/
theorem step_lit {w7 W : World} {ops : Array Oper} {o : Oper} {a : Act} {K : Act → World → Prop} {Q : Exit → Act → World → Prop} {E' : Prop} {s x : Operand} {base g m c lo loD md : Nat} {A D : Option Addr} {xs ys : List Int} {t : Int}
    (hbW : Below w7.heap.size w7 W) (hE : W.heap[g]? = some (.cells #[] 3 (0, 0))) (hbg : base ≤ g) (hF : FlH ci w7 lo A m xs) (hm : m ≤ 1000) (hb7 : base ≤ w7.heap.size) (hD : FlH ci w7 loD D md ys) (hy : ys ≠ [])
    (hgd : o.guard = none) (ho : o.op = .call { callee := .builtin .append, args := #[s, x], argTypes := #[28, 28] }) (hs : a.eval s = .slice (some ⟨g, 0, none⟩) 0 0) (hx : a.eval x = .slice A m c)
    (h : ∀ A9 c9 w9, w9.ownsRow base 3 1 (.slice A9 m c9) m (xs.flatMap ci) → FlH ci w9 loD D md ys → (∀ (b o : Nat) (s : Option Nat), D = some ⟨b, o, s⟩ → (Value.slice A9 m c9).ownBlock ≠ some b) → Below base w7 w9 → (∀ k : Nat, W.heap[k]? = some (.cells #[.int .i64 t] 3 (0, 0)) → w9.heap[k]? = some (.cells #[.int .i64 t] 3 (0, 0))) → K (a.put o.dst (.slice A9 m c9)) w9) :
    if Region.wanted o (yielded ops a.tmps) = true then Oper.wp Try.prog o a W K Q else E' := by
  have hFW := hF.bel hbW
  have hDW := hD.bel hbW
  have hxl := hF.1
  refine step_app_at Try.elInt (v := .slice (some ⟨g, 0, none⟩) 0 0) (base := base) (A := A) (m := m) (c := c) (news := xs.flatMap ci) (own_nil_heap (size := 1) hE hbg) (fl_rd hFW) (by rw [flat_len ci 1 ci_len, hxl]) (by rw [flat_ci]; simp [Value.oneCell']) (by unfold maxLen; omega) (by omega) (by have := hbW.size; omega) hgd ho hs hx ?_
  intro v9 w9 hown9 hg9 hat9
  rw [Nat.zero_add, List.nil_append] at hown9
  obtain ⟨A9, c9, rfl, -, -, -⟩ := own_fl ci_len (by omega) hown9
  have hnl := ne_lit hE hDW hy
  refine h A9 c9 w9 hown9 (hDW.grown_ne hg9 fun _ b o s e h9 => by injection h9 with h9; exact hnl b o s e h9.symm) (fun b o s e h9 => ?_) ?_ (fun k hk => ?_)
  · have h1 := hnl b o s e
    have h2 := blk_lit hDW hy b o s e
    rcases hat9 with h | h
    · rw [h] at h9; injection h9 with h9; exact h1 h9.symm
    · rw [h] at h9; injection h9 with h9; omega
  · exact (hbW.mono (by omega) : Below base w7 W).trans ⟨hg9.os, hg9.tape, hg9.output, hg9.size, fun k hk => hg9.block k (by have := hbW.size; omega) (fun e => by injection e with e; have e2 : k = g := e; omega)⟩
  · exact keep_grown hg9 hE (by simp) k hk
/-- the append of a literal of one number to a row of the call's own -/
theorem step_last {w9 W : World} {ops : Array Oper} {o : Oper} {a : Act} {K : Act → World → Prop} {Q : Exit → Act → World → Prop} {E' : Prop} {s x : Operand} {base g m c9 loD md : Nat} {A9 D : Option Addr} {xs ys : List Int} {t : Int}
    (hbW : Below w9.heap.size w9 W) (hT : W.heap[g]? = some (.cells #[.int .i64 t] 3 (0, 0))) (ho9 : w9.ownsRow base 3 1 (.slice A9 m c9) m (xs.flatMap ci)) (hm : m ≤ 1000) (hb9 : base ≤ w9.heap.size) (hD : FlH ci w9 loD D md ys) (hne : ∀ (b o : Nat) (s : Option Nat), D = some ⟨b, o, s⟩ → (Value.slice A9 m c9).ownBlock ≠ some b)
    (hgd : o.guard = none) (ho : o.op = .call { callee := .builtin .append, args := #[s, x], argTypes := #[28, 28] }) (hs : a.eval s = .slice A9 m c9) (hx : a.eval x = .slice (some ⟨g, 0, none⟩) 1 1)
    (h : ∀ A10 c10 w10, FlH ci w10 base A10 (m + 1) (xs ++ [t]) → FlH ci w10 loD D md ys → Below base w9 w10 → K (a.put o.dst (.slice A10 (m + 1) c10)) w10) :
    if Region.wanted o (yielded ops a.tmps) = true then Oper.wp Try.prog o a W K Q else E' := by
  have hoW := own_below ho9 hbW
  have hDW := hD.bel hbW
  refine step_app_at Try.elInt (v := .slice A9 m c9) (n := m) (cs := xs.flatMap ci) (base := base) (A := some ⟨g, 0, none⟩) (m := 1) (c := 1) (news := [.int .i64 t]) hoW (rd_heap hT) rfl (by simp [Value.oneCell']) (by unfold maxLen; omega) (by omega) (by have := hbW.size; omega) hgd ho hs hx ?_
  intro v10 w10 hown10 hg10 hat10
  rw [show xs.flatMap ci ++ [.int .i64 t] = (xs ++ [t]).flatMap ci from by rw [List.flatMap_append]; rfl] at hown10
  obtain ⟨A10, c10, rfl, -, -, hF10⟩ := own_fl ci_len (by omega) hown10
  exact h A10 c10 w10 hF10 (hDW.grown_ne hg10 fun _ b o s e => hne b o s e) ((hbW.mono (by omega) : Below base w9 W).trans ⟨hg10.os, hg10.tape, hg10.output, hg10.size, fun k hk => hg10.block k (by have := hbW.size; omega) (fun e => by have := (ho9.lt k e.symm).1; omega)⟩)

end Go.Proofs.Ytgnhanbdfohjaaa
