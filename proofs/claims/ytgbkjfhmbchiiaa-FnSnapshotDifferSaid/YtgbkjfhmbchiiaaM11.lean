/-
  The walks of the reference's l22Parts2 and l22Copy: parts, and a coordinator, in memory of their own. Condition: lengths are small.
  The walk of the reference's l22Copy: a coordinator in memory of its own. Condition: lengths are small.
  The walk of the reference's l22Vote: a vote is set in a copy of a coordinator. Condition: the coordinator is small, the transaction and the vote are there.
  The refs of a shard behind some transactions of a coordinator, and the shards whose refs differ, in plain Lean. No program in sight.
-/
import Derived.Test.YtgbkjfhmbchiiaaM5
import Derived.Test.YtgbkjfhmbchiiaaM9
import Derived.Test.YtgbkjfhmbchiiaaClone
import Derived.Test.YtgbkjfhmbchiiaaDrawUpds
import Derived.Deep.RegionHeldLaw
import Derived.Test.YtgbkjfhmbchiiaaM8
import Derived.Test.YtgbkjfhmbchiiaaM6
namespace Go.Proofs.Ytgbkjfhmbchiiaa
set_option linter.unusedVariables false
set_option linter.unusedSimpArgs false
open Go.RowKit

theorem cu_one (us : List Upd) : ∀ u ∈ us.flatMap cu, u.oneCell' = true := by
  intro u hu
  obtain ⟨x, -, hx⟩ := List.mem_flatMap.1 hu
  simp [cu] at hx
  rcases hx with rfl | rfl | rfl <;> rfl
theorem ownL_upds {w : World} : ∀ (xs : List Upd), D.ownL w (xs.flatMap fUpdate) [] (xs.flatMap cu)
  | [] => D.ownL.nil w
  | x :: xs => by
    have h := D.ownL.cons (D.own.int w x.ref) (D.ownL.cons (D.own.int w x.old) (D.ownL.cons (D.own.int w x.new_) (ownL_upds (w := w) xs)))
    simpa [cu, fUpdate] using h
theorem own_upds {w : World} {base n : Nat} {v : Value} {xs : List Upd} (h : w.ownsRow base 88 3 v n (xs.flatMap cu)) : Own w base (dUpdates xs) v := by
  have hl : xs.length = n := by
    have := h.1
    rw [flat_len cu 3 cu_len] at this
    omega
  subst hl
  exact Grow.own (E := 88) ⟨_, [], h, ownL_upds xs, List.nodup_nil, fun _ h => (by cases h), fun _ _ h => (by cases h)⟩
theorem Try.elPart : ElemT Try.prog 44 49 (.agg #[.int .i64 0, .slice none 0 0]) 2 32 := ⟨Try.underlying44, by kernel_rfl, rfl, by decide⟩
theorem Try.elTxn : ElemT Try.prog 23 46 (.agg #[.slice none 0 0, .slice none 0 0, .int .i64 0]) 3 56 := ⟨Try.underlying23, by kernel_rfl, rfl, by decide⟩
theorem parts_snoc {ps : List PartD} {k : Nat} (h : k < ps.length) : (ps.take (k + 1)).flatMap fPart = (ps.take k).flatMap fPart ++ fPart ps[k] := by rw [List.take_succ_eq_append_getElem h, List.flatMap_append]; simp

set_option maxHeartbeats 3200000 in
set_option maxRecDepth 100000 in
theorem parts2_any (ps : List PartD) (A : Option Addr) (n c : Nat) (w : World) (lo hi : Nat) (hh : hi ≤ w.heap.size) (hn : n ≤ 1000) (hu : ∀ p ∈ ps, p.us.length ≤ 1000) (h : D.rd w lo hi (dParts ps) (.slice A n c)) :
    Calls Try.prog 74 #[.slice A n c] w fun e w' => ∃ (B : Option Addr) (d : Nat), Own w' w.heap.size (dParts ps) (.slice B n d) ∧ Below w.heap.size w w' ∧ e = .returned (.slice B n d) := by
  have HI := Lib.hid h
  have HU0 := Lib.hid hu
  have HN := Lib.hid h.len.1
  have HG0 : Hid (Grow (w.alloc (.cells #[] 49)) w.heap.size 49 2 (.slice (some ⟨w.heap.size, 0, none⟩) 0 0) 0 ((ps.take 0).flatMap fPart)) := Lib.hid (Grow.nil (own_nil_lit w 49 2))
  clear h hu
  go_enter Try.func74, Try.ntmps74
  go_wp2_with fail
  go_loopw [3, 4] (fun y i wr => ∃ (k : Nat) (B : Option Addr) (d : Nat), k ≤ n ∧ i = .int .i64 k ∧ y = .slice B k d ∧ Hid (Grow wr w.heap.size 49 2 (.slice B k d) k ((ps.take k).flatMap fPart)) ∧ Below w.heap.size w wr) (fun _ i _ => n - (intOf i).toNat)
  case atStart => exact ⟨0, _, _, Nat.zero_le _, rfl, rfl, HG0.out, (Below.refl _ _).alloc (Nat.le_refl _) _⟩
  case round =>
    obtain ⟨k, B, d, hk, rfl, rfl, HG, hb⟩ := hrel
    have HB := Lib.hid hb
    have hws := hb.size
    clear hb HG0
    by_cases hlt : k < n
    · obtain ⟨b, o, hl, A1, n1, c1, rfl, _, hbh, hc0, hc1, ⟨hn1, hm1, hr1⟩⟩ := rd_Part (HI.out.below HB.out hh) hlt
      have hn1' : n1 ≤ 1000 := by have h1 := hr1.len; have h2 := HU0.out _ (List.getElem_mem hl); omega
      have hhr : hi ≤ wr.heap.size := by omega
      have hbw : b < wr.heap.size := by omega
      have hlt2 : (k : Int) < (n : Int) := by omega
      have HLA : Hid ((wr.drew.alloc (.cells #[] 88)).ownsRow wr.heap.size 88 3 (.slice (some ⟨wr.heap.size, 0, none⟩) 0 0) 0 []) := Lib.hid (own_nil_lit wr.drew 88 3)
      have HUA : Hid (Fl cu (wr.drew.alloc (.cells #[] 88)) lo hi A1 n1 ps[k].us) := Lib.hid (hr1.upds.drewN 1 |>.alloc hhr _)
      have HSN := Lib.hid (parts_snoc hl)
      have tok1 : True := trivial
      clear hr1
      go_wp2_with fail
      go_region_held_law (fun w' => w'.cell? ⟨b, o + k * 2, none⟩ = some (.int .i64 ps[k].shard) ∧ w'.cell? ⟨b, o + k * 2 + 1, none⟩ = some (.slice A1 n1 c1)) (go_keep)
        (first
          | (have _t := tok1; refine step_app_at Try.elUpd HLA.out HUA.out.2 (by rw [flat_len cu 3 cu_len, HUA.out.1]) (cu_one _) (by unfold maxLen; omega) (by omega) (by first | (simp; done) | (simp; omega)) rfl rfl rfl rfl ?_; intro v4 w4 hown4 hg4 hat4; rw [Nat.zero_add, List.nil_append] at hown4; obtain ⟨B4, d4, rfl, -, -, -⟩ := Rd.of_own hown4; have hb4 : Below wr.heap.size wr w4 := (((Below.refl wr.heap.size wr).drew).alloc (Nat.le_refl _) (.cells #[] 88)).grown hg4 (by first | (simp; done) | (simp; omega)) (fun q hq => by have := (HLA.out.lt q hq).1; exact this); have q0 : w4.cell? ⟨b, o + k * 2, none⟩ = some (.int .i64 ps[k].shard) := (hb4.cell hbw).trans hc0; have q1 : w4.cell? ⟨b, o + k * 2 + 1, none⟩ = some (.slice A1 n1 c1) := (hb4.cell hbw).trans hc1; have hl4 : b < w4.heap.size := Nat.lt_of_lt_of_le hbw hb4.size; have hd4 : OwnL w4 wr.heap.size (fPart ps[k]) [.int .i64 ps[k].shard, .slice B4 n1 d4] := ((OwnL.nil wr wr.heap.size).int ps[k].shard).snoc (Nat.le_refl _) hb4 (own_upds hown4) (Nat.le_refl _); obtain ⟨vs, F, G, hov, hrest⟩ := GrowP.mk_ HG.out hb4 hd4 hws; have HOV := Lib.hid hov; have HFG : Hid (∃ F G, w4.ownsRow w.heap.size 49 2 (.slice B k d) k vs ∧ D.ownL w4 ((ps.take k).flatMap fPart) F vs ∧ D.ownL w4 (fPart ps[k]) G [.int .i64 ps[k].shard, .slice B4 n1 d4] ∧ (F ++ G).Nodup ∧ (∀ g ∈ F ++ G, w.heap.size ≤ g ∧ g < w4.heap.size) ∧ ∀ g, (Value.slice B k d).ownBlock = some g → g ∉ F ++ G) := ⟨F, G, hov, hrest⟩; have HB4 := Lib.hid (bel_tr HB.out (Nat.le_refl _) hb4); have hw4 : w.heap.size ≤ w4.heap.size := Nat.le_trans hws hb4.size; clear tok1 _t hown4 hg4 hat4 hb4 hd4 hov hrest)
          | (refine step_app_at Try.elPart (m := 1) (news := [.int .i64 ps[k].shard, .slice B4 n1 d4]) (HOV.out.alloc _) (rd_newn (n := w4.heap.size) rfl [.int .i64 ps[k].shard, .slice B4 n1 d4] 49) rfl (by simp [Value.oneCell']) (by unfold maxLen; omega) (by omega) (by simp; omega) rfl rfl rfl rfl ?_; intro v5 w5 hown5 hg5 hat5; have HG5 := Lib.hid (GrowP.done HFG.out hown5 hg5 hat5); have HB5 := Lib.hid (below_app (HB4.out.alloc hw4 _) (Nat.le_refl _) (by simp; omega) (HOV.out.alloc _) hg5); have q0' : w5.cell? ⟨b, o + k * 2, none⟩ = some (.int .i64 ps[k].shard) := (World.cell?_of_block (HB5.out.block b (by omega))).trans ((World.cell?_of_block (HB.out.block b (by omega))).symm.trans hc0); have q1' : w5.cell? ⟨b, o + k * 2 + 1, none⟩ = some (.slice A1 n1 c1) := (World.cell?_of_block (HB5.out.block b (by omega))).trans ((World.cell?_of_block (HB.out.block b (by omega))).symm.trans hc1); obtain ⟨B5, d5, rfl, -, -, -⟩ := Rd.of_own hown5; clear hown5 hg5 hat5))
      all_goals
        go_wp2_with fail
        exact ⟨⟨k + 1, _, _, by omega, by go_num, rfl, by rw [HSN.out]; exact HG5.out, HB5.out⟩, by simp [intOf]; omega⟩
    · have hkn : k = n := by omega
      subst hkn
      have htk : ps.take k = ps := List.take_of_length_le (by have := HN.out; omega)
      rw [htk] at HG
      go_wp2_with fail
      go_ret
      exact ⟨B, d, by have := HG.out.own; unfold dParts; rw [← HN.out]; exact this, HB.out, rfl⟩

end Go.Proofs.Ytgbkjfhmbchiiaa

section
namespace Go.Proofs.Ytgbkjfhmbchiiaa
set_option linter.unusedVariables false
set_option linter.unusedSimpArgs false
open Go.RowKit

/-- a load whose cell the region itself writes at its end: it is branched over -/
def loadP (t : TypeId) (x : Operand) : Op := .load t x

/-- a value in blocks of its own, from lo on and below hi -/
def OwnV (w : World) (lo hi : Nat) (d : D) (v : Value) : Prop := ∃ F : List Nat, F.Nodup ∧ (∀ g ∈ F, lo ≤ g ∧ g < hi) ∧ D.own w d F v
theorem OwnV.of {w : World} {lo : Nat} {d : D} {v : Value} (h : Own w lo d v) : OwnV w lo w.heap.size d v := h
theorem OwnV.below {w w' : World} {lo hi C : Nat} {d : D} {v : Value} (h : OwnV w lo hi d v) (hb : Below C w w') (hC : hi ≤ C) : OwnV w' lo hi d v := by
  obtain ⟨F, h1, h2, h3⟩ := h
  exact ⟨F, h1, h2, D.own.keep d F v (fun g hg => hb.block g (Nat.lt_of_lt_of_le (h2 g hg).2 hC)) h3⟩
theorem OwnV.more {w : World} {lo hi lo' hi' : Nat} {d : D} {v : Value} (h : OwnV w lo hi d v) (h1 : lo' ≤ lo) (h2 : hi ≤ hi') : OwnV w lo' hi' d v := by
  obtain ⟨F, g1, g2, g3⟩ := h
  exact ⟨F, g1, fun g hg => ⟨Nat.le_trans h1 (g2 g hg).1, Nat.lt_of_lt_of_le (g2 g hg).2 h2⟩, g3⟩
/-- a row of numbers, told with the one block that it may lie in -/
theorem row_ival {w : World} {base n lo hi : Nat} {E : TypeId} {v : Value} {xs : List Int} (h : w.ownsRow base E 1 v n (xs.flatMap ci)) (hb : ∀ g, v.ownBlock = some g → lo ≤ g ∧ g < hi) : OwnV w lo hi (intsD xs) v := by
  have hl : xs.length = n := by
    have := h.1
    rw [flat_len ci 1 ci_len] at this
    omega
  subst hl
  obtain ⟨A, c, rfl, hc1, hc2, -⟩ := Rd.of_own h
  unfold maxLen at hc2
  have hes : (xs.map D.int).length = xs.length * 1 := by simp
  rcases h.2 with ⟨e, h0⟩ | ⟨g, cap, cur, e, -, hh, -⟩
  · have hx : xs = [] := List.eq_nil_of_length_eq_zero (by injection e)
    subst hx
    refine ⟨[], List.nodup_nil, fun _ h => (by cases h), ?_⟩
    unfold intsD D.own
    exact ⟨A, c, [], [], rfl, hc1, hc2, hes, ownL_ints [], .inl ⟨rfl, rfl⟩⟩
  · injection e with e1 e2 e3
    subst e1
    refine ⟨[g], by simp, fun q hq => ?_, ?_⟩
    · rw [List.mem_singleton] at hq
      subst hq
      exact hb q rfl
    · unfold intsD D.own
      refine ⟨_, c, xs.flatMap ci, [], rfl, hc1, hc2, hes, ownL_ints xs, .inr ⟨g, 0, rfl, rfl, fun j u hu => ⟨?_, ?_⟩⟩⟩
      · have := h.cells (g := g) rfl j u hu
        have e2 : (⟨g, 0, none⟩ : Addr).add j = ⟨g, 0 + j, none⟩ := by
          unfold Addr.add
          by_cases hj : j = 0 <;> simp [hj]
        rw [← e2]; exact this
      · exact frozen_of_row w g _ _ _ hh
/-- the fields of a transaction, made in any order -/
theorem txn_parts {w : World} {lo lo0 hi0 lo1 hi1 : Nat} {ps : List PartD} {vs : List Int} {x : Int} {v0 v1 : Value} (h0 : OwnV w lo0 hi0 (dParts ps) v0) (h1 : OwnV w lo1 hi1 (intsD vs) v1) (hd : hi0 ≤ lo1 ∨ hi1 ≤ lo0) (hl0 : lo ≤ lo0) (hl1 : lo ≤ lo1) (hh0 : hi0 ≤ w.heap.size) (hh1 : hi1 ≤ w.heap.size) :
    OwnL w lo (fTxn ⟨ps, vs, x⟩) [v0, v1, .int .i64 x] := by
  obtain ⟨F, f1, f2, f3⟩ := h0
  obtain ⟨G, g1, g2, g3⟩ := h1
  refine ⟨F ++ (G ++ []), ?_, fun g hg => ?_, ?_⟩
  · rw [List.append_nil]
    refine List.nodup_append.2 ⟨f1, g1, fun a ha b hb e => ?_⟩
    subst e
    have := f2 a ha
    have := g2 a hb
    omega
  · rw [List.append_nil] at hg
    rcases List.mem_append.1 hg with hg | hg
    · have := f2 g hg; omega
    · have := g2 g hg; omega
  · exact D.ownL.cons f3 (D.ownL.cons g3 (D.ownL.cons (D.own.int w x) (D.ownL.nil w)))
theorem own_nil_blk {w : World} {g base size : Nat} {e : TypeId} (h : w.heap[g]? = some (.cells #[] e (0, 0))) (hb : base ≤ g) : w.ownsRow base e size (.slice (some ⟨g, 0, none⟩) 0 0) 0 [] :=
  ⟨by simp, .inr ⟨g, 0, _, rfl, hb, h, Nat.le_refl _, Nat.zero_le _, by simp, by simp⟩⟩
/-- votes behind a literal, appended behind the parts -/
theorem txn_late {w4 w5 : World} {lo n c : Nat} {ps : List PartD} {vs : List Int} {x : Int} {v0 : Value} {A : Option Addr} (h0 : OwnV w4 (lo + 1) w4.heap.size (dParts ps) v0) (hlo : lo < w4.heap.size)
    (hown : w5.ownsRow lo 3 1 (.slice A n c) n (vs.flatMap ci)) (hg : w4.grownBy w5 (some lo)) (hat : (Value.slice A n c).ownBlock = some lo ∨ (Value.slice A n c).ownBlock = some w4.heap.size) : OwnL w5 lo (fTxn ⟨ps, vs, x⟩) [v0, .slice A n c, .int .i64 x] := by
  have hs := hg.size
  have h5 : OwnV w5 (lo + 1) w4.heap.size (dParts ps) v0 := by
    obtain ⟨F, f1, f2, f3⟩ := h0
    exact ⟨F, f1, f2, D.own.keep _ F v0 (fun g hgF => hg.block g (f2 g hgF).2 (fun e => by have := (f2 g hgF).1; have e' : g = lo := Option.some.inj e; omega)) f3⟩
  rcases hat with hat | hat
  · exact txn_parts h5 (row_ival (lo := lo) (hi := lo + 1) hown (fun g hv => by rw [hat] at hv; have e' : lo = g := Option.some.inj hv; omega)) (.inr (Nat.le_refl _)) (by omega) (Nat.le_refl _) hs (by omega)
  · exact txn_parts h5 (row_ival (lo := w4.heap.size) (hi := w5.heap.size) hown (fun g hv => by
      have h1 := (hown.lt g hv).2
      rw [hat] at hv
      have e' : w4.heap.size = g := Option.some.inj hv
      omega)) (.inl (Nat.le_refl _)) (by omega) (by omega) hs (Nat.le_refl _)
/-- a coordinator of small rows -/
def Small (c : CoordD) : Prop := c.txns.length ≤ 100 ∧ c.order.length ≤ 100 ∧ ∀ t ∈ c.txns, t.parts.length ≤ 100 ∧ t.votes.length ≤ 100 ∧ ∀ p ∈ t.parts, p.us.length ≤ 1000

attribute [local go_sem] loadP
set_option maxHeartbeats 6400000 in
set_option maxRecDepth 100000 in
theorem copy_any (txns : List TxnD) (order : List Int) (A0 : Option Addr) (n0 c0 : Nat) (A1 : Option Addr) (n1 c1 : Nat) (w : World) (lo hi : Nat) (hh : hi ≤ w.heap.size) (hr0 : D.rd w lo hi (dTxns txns) (.slice A0 n0 c0)) (hr1 : D.rd w lo hi (intsD order) (.slice A1 n1 c1)) (hs : Small ⟨txns, order⟩) :
    Calls Try.prog 73 #[.agg #[.slice A0 n0 c0, .slice A1 n1 c1]] w fun e w' => ∃ v1 v2, CoO w' (w.heap.size + 2) w.heap.size v1 txns v2 order ∧ Below w.heap.size w w' ∧ w.heap.size + 4 ≤ w'.heap.size ∧ e = .returned (.agg #[v1, v2]) := by
  have HT := Lib.hid hr0
  have HO := Lib.hid hr1.ints
  have HL := Lib.hid hr1.ints.1
  have HN0 := Lib.hid hr0.len.1
  have HS := Lib.hid hs
  have hn0 : n0 ≤ 100 := by have h1 := hr0.len; have h2 := hs.1; dsimp only at h2; omega
  have hn1 : n1 ≤ 100 := by have h1 := hr1.ints.1; have h2 := hs.2.1; dsimp only at h2; omega
  clear hr0 hr1 hs
  obtain ⟨w1, hw1⟩ : ∃ w1 : World, w1 = (((w.alloc (.cells #[.slice A0 n0 c0, .slice A1 n1 c1] 26)).alloc (.cells #[.slice none 0 0, .slice none 0 0] 26)).alloc (.cells #[] 46)).alloc (.cells #[] 3) := ⟨_, rfl⟩
  have hz1 : w1.heap.size = w.heap.size + 4 := by rw [hw1]; simp
  have HB1 : Hid (Below w.heap.size w w1) := by rw [hw1]; exact Lib.hid (((((Below.refl _ _).alloc (Nat.le_refl _) _).alloc (by simp) _).alloc (by simp; omega) _).alloc (by simp; omega) _)
  have HX1 : Hid (w1.heap[w.heap.size]? = some (.cells #[.slice A0 n0 c0, .slice A1 n1 c1] 26 (0, 0))) := by
    rw [hw1]
    exact Lib.hid ((Below.heap_alloc _ _ _ (by first | (simp; done) | (simp; omega))).trans ((Below.heap_alloc _ _ _ (by first | (simp; done) | (simp; omega))).trans ((Below.heap_alloc _ _ _ (by simp)).trans (heap_alloc_new w _))))
  have HC1 : Hid (w1.heap[w.heap.size + 1]? = some (.cells #[.slice none 0 0, .slice none 0 0] 26 (0, 0))) := by
    rw [hw1]
    exact Lib.hid ((Below.heap_alloc _ _ _ (by first | (simp; done) | (simp; omega))).trans ((Below.heap_alloc _ _ _ (by simp)).trans (by
      have := heap_alloc_new (w.alloc (.cells #[.slice A0 n0 c0, .slice A1 n1 c1] 26)) (.cells #[.slice none 0 0, .slice none 0 0] 26)
      simpa using this)))
  have HT1 : Hid (w1.ownsRow (w.heap.size + 2) 46 3 (.slice (some ⟨w.heap.size + 1 + 1, 0, none⟩) 0 0) 0 []) := by
    rw [hw1]
    have := own_nil_lit ((w.alloc (.cells #[.slice A0 n0 c0, .slice A1 n1 c1] 26)).alloc (.cells #[.slice none 0 0, .slice none 0 0] 26)) 46 3
    simp only [World.size_alloc] at this
    exact Lib.hid (this.alloc _)
  have HO1 : Hid (w1.ownsRow (w.heap.size + 3) 3 1 (.slice (some ⟨w.heap.size + 1 + 1 + 1, 0, none⟩) 0 0) 0 []) := by
    rw [hw1]
    have := own_nil_lit (((w.alloc (.cells #[.slice A0 n0 c0, .slice A1 n1 c1] 26)).alloc (.cells #[.slice none 0 0, .slice none 0 0] 26)).alloc (.cells #[] 46)) 3 1
    simp only [World.size_alloc] at this
    exact Lib.hid this
  have b1 := cell_of_row w1 w.heap.size 1 _ _ _ HX1.out
  have HOA := Lib.hid ((HO.out.below HB1.out hh).2)
  go_enter Try.func73, Try.ntmps73
  go_wp2_with (at_builtin; (rw [← hw1]); go_must (refine wpList_app_at Try.elI HO1.out HOA.out (by rw [flat_len ci 1 ci_len, HL.out]) (by rw [flat_ci]; simp [Value.oneCell']) (by unfold maxLen; omega) (by omega) (by omega) rfl rfl rfl rfl ?_); intro v2 w2 hown2 hg2 hat2; rw [Nat.zero_add, List.nil_append] at hown2; obtain ⟨A2, d2, rfl, -, -, -⟩ := Rd.of_own hown2; go_must (have HB2 := Lib.hid (HB1.out.grown hg2 (by omega) (fun q hq => by have := (HO1.out.lt q hq).1; omega))); go_must (have HX2 := Lib.hid ((hg2.block _ (by omega) (fun e => by have e' : w.heap.size = w.heap.size + 1 + 1 + 1 := Option.some.inj e; omega)).trans HX1.out)); go_must (have HC2 := Lib.hid ((hg2.block _ (by omega) (fun e => by have e' : w.heap.size + 1 = w.heap.size + 1 + 1 + 1 := Option.some.inj e; omega)).trans HC1.out)); have hz2 := hg2.size)
  have HCO : Hid (CoO w2 (w.heap.size + 2) w2.heap.size (.slice (some ⟨w.heap.size + 1 + 1, 0, none⟩) 0 0) (txns.take 0) (.slice A2 n1 d2) order) := by
    have hv2 : ∀ g, (Value.slice A2 n1 d2).ownBlock = some g → w.heap.size + 3 ≤ g ∧ g < w2.heap.size := fun g hv => hown2.lt g hv
    refine Lib.hid ⟨[], [], HT1.out.kept hg2 (.inr (fun e => by have e' : w.heap.size + 1 + 1 = w.heap.size + 1 + 1 + 1 := Option.some.inj e; omega)), D.ownL.nil w2, ?_, List.nodup_nil, fun _ h => (by cases h), fun g hv => ⟨fun h => (by cases h), ?_, fun e => ?_⟩, fun g hv => ⟨fun h => (by cases h), ?_⟩⟩
    · rw [HL.out]
      obtain ⟨h1, h⟩ := hown2
      rcases h with h | ⟨g, cap, cur, a, b, r⟩
      · exact ⟨h1, .inl h⟩
      · exact ⟨h1, .inr ⟨g, cap, cur, a, by omega, r⟩⟩
    · have e' : w.heap.size + 1 + 1 = g := Option.some.inj hv
      omega
    · have e' : w.heap.size + 1 + 1 = g := Option.some.inj hv
      have := (hv2 g e).1; omega
    · have := (hv2 g hv).2; omega
  have HCA := Lib.hid (HCO.out.alloc (.cells #[.slice (some ⟨w.heap.size + 1 + 1, 0, none⟩) 0 0, .slice A2 n1 d2] 26))
  have HBA : Hid (Below w.heap.size w (w2.alloc (.cells #[.slice (some ⟨w.heap.size + 1 + 1, 0, none⟩) 0 0, .slice A2 n1 d2] 26))) := Lib.hid (HB2.out.alloc (by omega) _)
  have HXA : Hid ((w2.alloc (.cells #[.slice (some ⟨w.heap.size + 1 + 1, 0, none⟩) 0 0, .slice A2 n1 d2] 26)).heap[w.heap.size]? = some (.cells #[.slice A0 n0 c0, .slice A1 n1 c1] 26 (0, 0))) := Lib.hid ((Below.heap_alloc _ _ _ (by omega)).trans HX2.out)
  have HCC : Hid ((w2.alloc (.cells #[.slice (some ⟨w.heap.size + 1 + 1, 0, none⟩) 0 0, .slice A2 n1 d2] 26)).heap[w.heap.size + 1]? = some (.cells #[.slice none 0 0, .slice none 0 0] 26 (0, 0))) := Lib.hid ((Below.heap_alloc _ _ _ (by omega)).trans HC2.out)
  have HPA : Hid ((w2.alloc (.cells #[.slice (some ⟨w.heap.size + 1 + 1, 0, none⟩) 0 0, .slice A2 n1 d2] 26)).heap[w2.heap.size]? = some (.cells #[.slice (some ⟨w.heap.size + 1 + 1, 0, none⟩) 0 0, .slice A2 n1 d2] 26 (0, 0))) := Lib.hid (heap_alloc_new w2 _)
  obtain ⟨p, hp⟩ : ∃ p, p = w2.heap.size := ⟨_, rfl⟩
  have hp4 : w.heap.size + 4 ≤ p := by omega
  rw [← hp] at HCA HPA ⊢
  clear hown2 hg2 hat2 HCO hp HT1 HO1 HOA HX1 HC1 HB1 HX2 HC2 HB2 b1
  go_loopw [4] (fun i wr => ∃ (k : Nat) (B : Option Addr) (d : Nat), k ≤ n0 ∧ i = .int .i64 k ∧ Hid (wr.heap[p]? = some (.cells #[.slice B k d, .slice A2 n1 d2] 26 (0, 0))) ∧ Hid (CoO wr (w.heap.size + 2) p (.slice B k d) (txns.take k) (.slice A2 n1 d2) order) ∧ Hid (wr.heap[w.heap.size]? = some (.cells #[.slice A0 n0 c0, .slice A1 n1 c1] 26 (0, 0))) ∧ Hid (wr.heap[w.heap.size + 1]? = some (.cells #[.slice none 0 0, .slice none 0 0] 26 (0, 0))) ∧ Below w.heap.size w wr) (fun i _ => n0 - (intOf i).toNat)
  case atStart => exact ⟨0, _, _, Nat.zero_le _, rfl, HPA.out, HCA.out, HXA.out, HCC.out, HBA.out⟩
  case round =>
    obtain ⟨k, B, d, hk, rfl, HP, HCO, HX, HC, hb⟩ := hrel
    have HB := Lib.hid hb
    have hpw : p < wr.heap.size := hlt_of HP.out
    have hws : w.heap.size < wr.heap.size := by omega
    have hws1 : w.heap.size + 1 < wr.heap.size := by omega
    have b0 := cell_of_row wr w.heap.size 0 _ _ _ HX.out
    clear hb HPA HCA HXA HCC HBA
    by_cases hlt : k < n0
    · obtain ⟨b, o, hl, A3, n3, c3, A4, n4, c4, rfl, _, hbh, hc0, hc1', hc2, ⟨hn3, hm3, hr3⟩, ⟨hn4, hm4, hr4⟩⟩ := rd_Txn (HT.out.below HB.out hh) hlt
      have hsm := HS.out.2.2 txns[k] (List.getElem_mem hl)
      have hn3' : n3 ≤ 100 := by have h1 := hr3.len; have h2 := hsm.1; omega
      have hn4' : n4 ≤ 100 := by have h1 := hr4.ints.1; have h2 := hsm.2.1; omega
      have HUS := Lib.hid hsm.2.2
      have hbw : b < wr.heap.size := by omega
      have hhr : hi ≤ wr.heap.size := by omega
      have hlt2 : (k : Int) < (n0 : Int) := by omega
      have hpt : k < txns.length := hl
      obtain ⟨w3, hw3⟩ : ∃ w3, w3 = wr.alloc (.cells #[.slice A3 n3 c3, .slice A4 n4 c4, .int .i64 txns[k].dec] 46) := ⟨_, rfl⟩
      obtain ⟨q, hq⟩ : ∃ q, q = wr.heap.size := ⟨_, rfl⟩
      have hz3 : w3.heap.size = q + 1 := by rw [hw3, hq]; simp
      have hbr : Below wr.heap.size wr w3 := by rw [hw3]; exact (Below.refl _ _).alloc (Nat.le_refl _) _
      have HQ3 : Hid (w3.heap[q]? = some (.cells #[.slice A3 n3 c3, .slice A4 n4 c4, .int .i64 txns[k].dec] 46 (0, 0))) := by rw [hw3, hq]; exact Lib.hid (heap_alloc_new wr _)
      have HP3 := Lib.hid ((hbr.block _ hpw).trans HP.out)
      have HX3 := Lib.hid ((hbr.block _ hws).trans HX.out)
      have HC3 := Lib.hid ((hbr.block _ hws1).trans HC.out)
      have HCO3 := Lib.hid (HCO.out.fresh hbr)
      have HB3 := Lib.hid (bel_tr HB.out (Nat.le_refl _) hbr)
      have HR3 := Lib.hid (hr3.below hbr hhr)
      have HR4 := Lib.hid (hr4.ints.below hbr hhr)
      have hh3 : hi ≤ w3.heap.size := by omega
      have hpq : p < q := by omega
      have hpne : (Value.slice B k d).ownBlock ≠ some p := fun e => by
        obtain ⟨vs, F, -, -, -, -, -, h6, -⟩ := HCO.out
        exact (h6 p e).2.1 rfl
      have HTS : Hid (txns.take (k + 1) = txns.take k ++ [txns[k]]) := Lib.hid (List.take_succ_eq_append_getElem hpt)
      have HKL : Hid ((txns.take k).length = k) := Lib.hid (by rw [List.length_take]; omega)
      have i0 : w3.cell? ⟨p, 0, none⟩ = some (.slice B k d) := cell_of_row w3 p 0 _ _ _ HP3.out
      have i1 : w3.cell? ⟨q, 0, none⟩ = some (.slice A3 n3 c3) := cell_of_row w3 q 0 _ _ _ HQ3.out
      have i2 : w3.cell? ⟨q, 1, none⟩ = some (.slice A4 n4 c4) := cell_of_row w3 q 1 _ _ _ HQ3.out
      have i3 : w3.cell? ⟨q, 2, none⟩ = some (.int .i64 txns[k].dec) := cell_of_row w3 q 2 _ _ _ HQ3.out
      have hp3 : p < w3.heap.size := by omega
      have hq3 : q < w3.heap.size := by omega
      have HEL : Hid ((w3.alloc (.cells #[] 3)).drew.heap[w3.heap.size]? = some (.cells #[] 3 (0, 0))) := Lib.hid (heap_alloc_new w3 _)
      have hh3d : hi ≤ w3.drew.heap.size := hh3
      have hh3a : hi ≤ (w3.alloc (.cells #[] 3)).drew.heap.size := by show hi ≤ (w3.alloc (.cells #[] 3)).heap.size; simp; omega
      have HR3d := Lib.hid HR3.out.drew
      have HR3a := Lib.hid (HR3.out.alloc hh3 (.cells #[] 3)).drew
      have hn3b : n3 ≤ 1000 := by omega
      have tokA : True := trivial
      have tokC : True := trivial
      clear hr3 hr4 hbr hsm
      go_wp2_with fail
      rw [← hw3, ← hq]
      have hqw : wr.heap.size ≤ q := by omega
      have hqw2 : q ≤ wr.heap.size := by omega
      have hpqn : ¬ (p = q) := by omega
      have hz3a : w3.heap.size ≤ q + 1 := by omega
      have hz3b : q + 1 ≤ w3.heap.size := by omega
      have hqpn : ¬ (q = p) := by omega
      clear hw3 hq hz3
      rw [show Op.load 23 (Operand.tmp 24) = loadP 23 (Operand.tmp 24) from rfl]
      go_region_held_law (fun w' => w'.cell? ⟨q, 0, none⟩ = some (.slice A3 n3 c3) ∧ w'.cell? ⟨q, 1, none⟩ = some (.slice A4 n4 c4) ∧ w'.cell? ⟨q, 2, none⟩ = some (.int .i64 txns[k].dec)) (go_keep)
        (first
          | (go_at_call 74; have _t := tokA; (with_reducible refine (parts2_any txns[k].parts A3 n3 c3 w3.drew lo hi hh3d hn3b HUS.out HR3d.out).mono ?_); rintro e w4 ⟨Bp, dp, hop, hb4', rfl⟩; have hb4 : Below w3.heap.size w3 w4 := (Below.refl _ _).drew.trans hb4'; have HPV : Hid (OwnV w4 w3.heap.size w4.heap.size (dParts txns[k].parts) (.slice Bp n3 dp)) := Lib.hid (OwnV.of hop); have HB34 := Lib.hid hb4; have j0 : w4.cell? ⟨p, 0, none⟩ = some (.slice B k d) := (hb4.cell hp3).trans i0; have j1 : w4.cell? ⟨q, 0, none⟩ = some (.slice A3 n3 c3) := (hb4.cell hq3).trans i1; have j2 : w4.cell? ⟨q, 1, none⟩ = some (.slice A4 n4 c4) := (hb4.cell hq3).trans i2; have j3 : w4.cell? ⟨q, 2, none⟩ = some (.int .i64 txns[k].dec) := (hb4.cell hq3).trans i3; have HLA : Hid ((w4.alloc (.cells #[] 3)).ownsRow w4.heap.size 3 1 (.slice (some ⟨w4.heap.size, 0, none⟩) 0 0) 0 []) := Lib.hid (own_nil_lit w4 3 1); have HV4 : Hid (Ints (w4.alloc (.cells #[] 3)) lo hi A4 n4 txns[k].votes) := Lib.hid ((HR4.out.below hb4 hh3).alloc (Nat.le_trans hh3 hb4.size) _); have hp4' : p < w4.heap.size := Nat.lt_of_lt_of_le hp3 hb4.size; have hq4 : q < w4.heap.size := Nat.lt_of_lt_of_le hq3 hb4.size; have hs34 := hb4.size; have tokB : True := trivial; clear tokA _t hop hb4 hb4')
          | (go_at_call 74; have _t := tokA; (with_reducible refine (parts2_any txns[k].parts A3 n3 c3 (w3.alloc (.cells #[] 3)).drew lo hi hh3a hn3b HUS.out HR3a.out).mono ?_); rintro e w4 ⟨Bp, dp, hop, hb4', rfl⟩; have hz4 : (w3.alloc (.cells #[] 3)).drew.heap.size = w3.heap.size + 1 := (by show (w3.alloc _).heap.size = _; simp); (rw [hz4] at hop hb4'); have hb4 : Below w3.heap.size w3 w4 := (((Below.refl w3.heap.size w3).alloc (Nat.le_refl _) (.cells #[] 3)).drew).trans (hb4'.mono (Nat.le_succ _)); have HPV : Hid (OwnV w4 (w3.heap.size + 1) w4.heap.size (dParts txns[k].parts) (.slice Bp n3 dp)) := Lib.hid (OwnV.of hop); have HB34 := Lib.hid hb4; have j0 : w4.cell? ⟨p, 0, none⟩ = some (.slice B k d) := (hb4.cell hp3).trans i0; have j1 : w4.cell? ⟨q, 0, none⟩ = some (.slice A3 n3 c3) := (hb4.cell hq3).trans i1; have j2 : w4.cell? ⟨q, 1, none⟩ = some (.slice A4 n4 c4) := (hb4.cell hq3).trans i2; have j3 : w4.cell? ⟨q, 2, none⟩ = some (.int .i64 txns[k].dec) := (hb4.cell hq3).trans i3; have HLB : Hid (w4.ownsRow w3.heap.size 3 1 (.slice (some ⟨w3.heap.size, 0, none⟩) 0 0) 0 []) := Lib.hid (own_nil_blk ((hb4'.block w3.heap.size (by omega)).trans HEL.out) (Nat.le_refl _)); have HV4 : Hid (Ints w4 lo hi A4 n4 txns[k].votes) := Lib.hid (HR4.out.below hb4 hh3); have hp4' : p < w4.heap.size := Nat.lt_of_lt_of_le hp3 hb4.size; have hq4 : q < w4.heap.size := Nat.lt_of_lt_of_le hq3 hb4.size; have hs34 := hb4.size; have hs34' : w3.heap.size + 1 ≤ w4.heap.size := (by have h9 := hb4'.size; rw [hz4] at h9; exact h9); have tokB2 : True := trivial; clear tokA _t hop hb4 hb4' hz4)
          | (have _t := tokB; refine step_app_at Try.elI HLA.out HV4.out.2 (by rw [flat_len ci 1 ci_len, HV4.out.1]) (by rw [flat_ci]; simp [Value.oneCell']) (by unfold maxLen; omega) (by omega) (by first | (simp; done) | (simp; omega)) rfl rfl rfl rfl ?_; intro v5 w5 hown5 hg5 hat5; rw [Nat.zero_add, List.nil_append] at hown5; obtain ⟨Bv, dv, rfl, -, -, -⟩ := Rd.of_own hown5; have hb45 : Below w4.heap.size w4 w5 := ((Below.refl w4.heap.size w4).alloc (Nat.le_refl _) (.cells #[] 3)).grown hg5 (by simp) (fun y hy => (HLA.out.lt y hy).1); have hb5 : Below w3.heap.size w3 w5 := HB34.out.trans (hb45.mono hs34); have hd5 : OwnL w5 w3.heap.size (fTxn txns[k]) [.slice Bp n3 dp, .slice Bv n4 dv, .int .i64 txns[k].dec] := txn_parts (HPV.out.below hb45 (Nat.le_refl _)) (OwnV.of (own_ints hown5)) (.inl (Nat.le_refl _)) (Nat.le_refl _) hs34 hb45.size (Nat.le_refl _); obtain ⟨vs, hov, hcl⟩ := HCO3.out.app hb5 hd5 (by omega) hp3; rw [HKL.out] at hov hcl; have HOV := Lib.hid hov; have HCL := Lib.hid hcl; have HB5 := Lib.hid (bel_tr HB3.out (Nat.le_refl _) hb5); have HW5 := Lib.hid hb5; have m0 : w5.cell? ⟨p, 0, none⟩ = some (.slice B k d) := (hb5.cell hp3).trans i0; have m1 : w5.cell? ⟨q, 0, none⟩ = some (.slice A3 n3 c3) := (hb5.cell hq3).trans i1; have m2 : w5.cell? ⟨q, 1, none⟩ = some (.slice A4 n4 c4) := (hb5.cell hq3).trans i2; have m3 : w5.cell? ⟨q, 2, none⟩ = some (.int .i64 txns[k].dec) := (hb5.cell hq3).trans i3; have hs5 := hb5.size; have hp5 : p < w5.heap.size := Nat.lt_of_lt_of_le hp3 hs5; have hq5 : q < w5.heap.size := Nat.lt_of_lt_of_le hq3 hs5; have tokD : True := trivial; clear tokB _t hown5 hg5 hat5 hb45 hb5 hd5 hov hcl)
          | (have _t := tokB2; refine step_app_at Try.elI HLB.out HV4.out.2 (by rw [flat_len ci 1 ci_len, HV4.out.1]) (by rw [flat_ci]; simp [Value.oneCell']) (by unfold maxLen; omega) (by omega) (by omega) rfl rfl rfl rfl ?_; intro v5 w5 hown5 hg5 hat5; rw [Nat.zero_add, List.nil_append] at hown5; obtain ⟨Bv, dv, rfl, -, -, -⟩ := Rd.of_own hown5; have hb5 : Below w3.heap.size w3 w5 := HB34.out.grown hg5 (by omega) (fun y hy => by have e' : w3.heap.size = y := Option.some.inj hy; omega); have hd5 : OwnL w5 w3.heap.size (fTxn txns[k]) [.slice Bp n3 dp, .slice Bv n4 dv, .int .i64 txns[k].dec] := txn_late HPV.out (by omega) hown5 hg5 hat5; obtain ⟨vs, hov, hcl⟩ := HCO3.out.app hb5 hd5 (by omega) hp3; rw [HKL.out] at hov hcl; have HOV := Lib.hid hov; have HCL := Lib.hid hcl; have HB5 := Lib.hid (bel_tr HB3.out (Nat.le_refl _) hb5); have HW5 := Lib.hid hb5; have m0 : w5.cell? ⟨p, 0, none⟩ = some (.slice B k d) := (hb5.cell hp3).trans i0; have m1 : w5.cell? ⟨q, 0, none⟩ = some (.slice A3 n3 c3) := (hb5.cell hq3).trans i1; have m2 : w5.cell? ⟨q, 1, none⟩ = some (.slice A4 n4 c4) := (hb5.cell hq3).trans i2; have m3 : w5.cell? ⟨q, 2, none⟩ = some (.int .i64 txns[k].dec) := (hb5.cell hq3).trans i3; have hs5 := hb5.size; have hp5 : p < w5.heap.size := Nat.lt_of_lt_of_le hp3 hs5; have hq5 : q < w5.heap.size := Nat.lt_of_lt_of_le hq3 hs5; have tokD : True := trivial; clear tokB2 _t hown5 hg5 hat5 hb5 hd5 hov hcl)
          | (have _t := tokD; refine step_app_at Try.elTxn (m := 1) (news := [.slice Bp n3 dp, .slice Bv n4 dv, .int .i64 txns[k].dec]) (HOV.out.alloc _) (rd_newn (n := w5.heap.size) rfl [.slice Bp n3 dp, .slice Bv n4 dv, .int .i64 txns[k].dec] 46) rfl (by simp [Value.oneCell']) (by unfold maxLen; omega) (by omega) (by first | (simp; done) | (simp; omega)) rfl rfl rfl rfl ?_; intro v6 w6 hown6 hg6 hat6; have HCO6 := Lib.hid (HCL.out w6 v6 _ hown6 hg6 hat6); have HB6 := Lib.hid (below_app (HB5.out.alloc (by omega) _) (by omega : w.heap.size ≤ w.heap.size + 2) (by first | (simp; done) | (simp; omega)) (HOV.out.alloc _) hg6); have hkb : ∀ y, y < w5.heap.size → (Value.slice B k d).ownBlock ≠ some y → w6.heap[y]? = w5.heap[y]? := fun y hy hne => (hg6.block y (by first | (simp; done) | (simp; omega)) (fun e => hne e.symm)).trans (Below.heap_alloc _ _ _ hy); have HP6 := Lib.hid ((hkb p (by omega) hpne).trans ((HW5.out.block _ hp3).trans HP3.out)); have hqne : (Value.slice B k d).ownBlock ≠ some q := fun e => (by have := (HOV.out.lt q e); obtain ⟨_, _, h1, -⟩ := HCO.out; have := (h1.lt q e).2; omega); have HQ6 := Lib.hid ((hkb q (by omega) hqne).trans ((HW5.out.block _ hq3).trans HQ3.out)); have hlow : ∀ y, y < w.heap.size + 2 → (Value.slice B k d).ownBlock ≠ some y := fun y hy e => (by have := (HOV.out.lt y e).1; omega); have HX6 := Lib.hid ((hkb _ (by omega) (hlow _ (by omega))).trans ((HW5.out.block _ (by omega)).trans HX3.out)); have HC6 := Lib.hid ((hkb _ (by omega) (hlow _ (by omega))).trans ((HW5.out.block _ (by omega)).trans HC3.out)); have s0 : w6.cell? ⟨p, 0, none⟩ = some (.slice B k d) := cell_of_row w6 p 0 _ _ _ HP6.out; have sf : w6.frozen? ⟨p, 0, none⟩ = false := frozen_of_row _ _ _ _ _ HP6.out; have s1 : w6.cell? ⟨q, 0, none⟩ = some (.slice A3 n3 c3) := cell_of_row w6 q 0 _ _ _ HQ6.out; have s2 : w6.cell? ⟨q, 1, none⟩ = some (.slice A4 n4 c4) := cell_of_row w6 q 1 _ _ _ HQ6.out; have s3 : w6.cell? ⟨q, 2, none⟩ = some (.int .i64 txns[k].dec) := cell_of_row w6 q 2 _ _ _ HQ6.out; obtain ⟨B6, d6, rfl, -, -, -⟩ := Rd.of_own hown6; clear tokD _t hown6 hg6 hat6 hkb hqne hlow))
      all_goals
        go_wp2_with fail
        refine ⟨⟨k + 1, B6, d6, by omega, by go_num, ?_, ?_, ?_, ?_, ?_⟩, by simp [intOf]; omega⟩
        · show Hid _
          exact Lib.hid (by rw [heap_setCell_same _ p 0 _ _ _ HP6.out]; rfl)
        · rw [HTS.out]; exact Lib.hid (HCO6.out.box 0 _)
        · exact Lib.hid ((Below.heap_setCell _ _ _ _ (by simp; omega)).trans HX6.out)
        · exact Lib.hid ((Below.heap_setCell _ _ _ _ (by simp; omega)).trans HC6.out)
        · exact HB6.out.setCell (by simp; omega) _
    · have hkn : k = n0 := by omega
      subst hkn
      have htk : txns.take k = txns := List.take_of_length_le (by have := HN0.out; omega)
      rw [htk] at HCO
      have e0 := cell_of_row wr p 0 _ _ _ HP.out
      have e1 := cell_of_row wr p 1 _ _ _ HP.out
      have f0 := cell_of_row wr (w.heap.size + 1) 0 _ _ _ HC.out
      have f1 := cell_of_row wr (w.heap.size + 1) 1 _ _ _ HC.out
      have g0 : wr.frozen? ⟨w.heap.size + 1, 0, none⟩ = false := frozen_of_row _ _ _ _ _ HC.out
      have g1 : wr.frozen? ⟨w.heap.size + 1, 1, none⟩ = false := frozen_of_row _ _ _ _ _ HC.out
      go_wp2_with fail
      exact bodyPost_ret (v := .agg #[.slice B k d, .slice A2 n1 d2]) (by simp [results, Try.results73, go_sem, f0, f1, g0, g1]) rfl ⟨_, _, ((HCO.out.low (by omega) _ _).low (by omega) _ _).other (.inr (by omega)), (HB.out.setCell (by simp) _).setCell (by simp) _, by simp [World.setCell]; omega, rfl⟩

end Go.Proofs.Ytgbkjfhmbchiiaa
end

namespace Go.Proofs.Ytgbkjfhmbchiiaa
set_option linter.unusedVariables false
set_option linter.unusedSimpArgs false
open Go.RowKit

/-- a coordinator handed back -/
def CoV (w : World) (e : Ending) (w' : World) : Prop := ∃ (v1 v2 : Value) (ts : List TxnD) (os : List Int), CoO w' (w.heap.size + 1) w.heap.size v1 ts v2 os ∧ Below w.heap.size w w' ∧ e = .returned (.agg #[v1, v2])

set_option maxHeartbeats 3200000 in
set_option maxRecDepth 100000 in
theorem vote_any (txns : List TxnD) (order : List Int) (t k : Nat) (yes : Bool) (A0 : Option Addr) (n0 c0 : Nat) (A1 : Option Addr) (n1 c1 : Nat) (w : World) (lo hi : Nat) (hh : hi ≤ w.heap.size) (hr0 : D.rd w lo hi (dTxns txns) (.slice A0 n0 c0)) (hr1 : D.rd w lo hi (intsD order) (.slice A1 n1 c1)) (hs : Small ⟨txns, order⟩) (ht : t < txns.length) (hk : k < txns[t].votes.length) :
    Calls Try.prog 76 #[.agg #[.slice A0 n0 c0, .slice A1 n1 c1], .int .i64 (t : Int), .int .i64 (k : Int), .bool yes] w fun e w' => CoV w e w' := by
  have HT := Lib.hid hr0
  have HO := Lib.hid hr1
  have HS := Lib.hid hs
  have hvl : txns[t].votes.length ≤ 100 := (hs.2.2 txns[t] (List.getElem_mem ht)).2.1
  have htl : txns.length ≤ 100 := hs.1
  have hol : order.length ≤ 100 := hs.2.1
  clear hr0 hr1 hs
  obtain ⟨w1, hw1⟩ : ∃ w1 : World, w1 = (w.alloc (.cells #[.slice A0 n0 c0, .slice A1 n1 c1] 26)).alloc (.cells #[.slice none 0 0, .slice none 0 0] 26) := ⟨_, rfl⟩
  have hz1 : w.heap.size + 1 < w1.heap.size := by rw [hw1]; simp
  have HB1 : Hid (Below w.heap.size w w1) := by rw [hw1]; exact Lib.hid (((Below.refl _ _).alloc (Nat.le_refl _) _).alloc (by simp) _)
  have HC1 : Hid (w1.heap[w.heap.size + 1]? = some (.cells #[.slice none 0 0, .slice none 0 0] 26 (0, 0))) := by
    rw [hw1]
    have := heap_alloc_new (w.alloc (.cells #[.slice A0 n0 c0, .slice A1 n1 c1] 26)) (.cells #[.slice none 0 0, .slice none 0 0] 26)
    exact Lib.hid (by simpa using this)
  go_enter Try.func76, Try.ntmps76
  go_wp2_with fail
  rw [← hw1]
  clear hw1
  refine (copy_any txns order A0 n0 c0 A1 n1 c1 w1 lo hi (by have := HB1.out.size; omega) (HT.out.below HB1.out hh) (HO.out.below HB1.out hh) HS.out).mono ?_
  rintro e w2 ⟨v1, v2, hco, hb2, hs2, rfl⟩
  obtain ⟨B1, d1, B2, d2, rfl, rfl⟩ := hco.vals
  obtain ⟨g, rfl, -, -, -, hgb⟩ := hco.at_ (by omega)
  have HB2 := Lib.hid (bel_tr HB1.out (Nat.le_refl _) hb2)
  have HC2 := Lib.hid ((hb2.block _ hz1).trans HC1.out)
  have HCO2 := Lib.hid (hco.other (q := w2.heap.size) (.inl (Nat.le_refl _)))
  obtain ⟨w3, hw3⟩ : ∃ w3, w3 = w2.alloc (.cells #[.slice (some ⟨g, 0, none⟩) txns.length d1, .slice B2 order.length d2] 26) := ⟨_, rfl⟩
  obtain ⟨p, hp⟩ : ∃ p, p = w2.heap.size := ⟨_, rfl⟩
  have hb3 : Below w2.heap.size w2 w3 := by rw [hw3]; exact (Below.refl _ _).alloc (Nat.le_refl _) _
  have HP3 : Hid (w3.heap[p]? = some (.cells #[.slice (some ⟨g, 0, none⟩) txns.length d1, .slice B2 order.length d2] 26 (0, 0))) := by rw [hw3, hp]; exact Lib.hid (heap_alloc_new w2 _)
  have HB3 := Lib.hid (bel_tr HB2.out (Nat.le_refl _) hb3)
  have HC3 := Lib.hid ((hb3.block _ (by omega)).trans HC2.out)
  have HCO3 : Hid (CoO w3 (w1.heap.size + 2) p (.slice (some ⟨g, 0, none⟩) txns.length d1) txns (.slice B2 order.length d2) order) := by rw [hp]; exact Lib.hid (HCO2.out.fresh hb3)
  have hpw : w.heap.size + 1 < p := by omega
  have hp1 : w1.heap.size + 4 ≤ p := by omega
  have hp3 : p < w3.heap.size := hlt_of HP3.out
  have p30 : w3.cell? ⟨p, 0, none⟩ = some (.slice (some ⟨g, 0, none⟩) txns.length d1) := cell_of_row _ _ _ _ _ _ HP3.out
  have ht1 : (t : Int) < (txns.length : Int) := by omega
  have hk1 : (k : Int) < (txns[t].votes.length : Int) := by omega
  obtain ⟨gv, ov, cv, j0, j1, j2, hne, hnp, hgv, hgvb, hset⟩ := HCO3.out.setVote ht hk
  have HSET := Lib.hid hset
  have hgl : g < w3.heap.size := World.block_lt_of_cell? _ _ j0
  have hnp' : ¬ (gv = p) := hnp
  have hnp2 : ¬ (p = gv) := fun e => hnp e.symm
  have hne' : ¬ (gv = g) := hne
  have hne2 : ¬ (g = gv) := fun e => hne e.symm
  clear hco hb2 hs2 hset
  go_upto_region 2 with (fail)
  rw [← hw3, ← hp]
  clear hw3 hp hb3
  rcases yes with _ | _
  · go_upto_region 4 with (fail)
    have HP4 := Lib.hid ((Below.heap_setCell w3 ⟨gv, ov + k, none⟩ (.int .i64 (-1)) p (by simpa using hnp2)).trans HP3.out)
    have HC4 := Lib.hid ((Below.heap_setCell w3 ⟨gv, ov + k, none⟩ (.int .i64 (-1)) (w.heap.size + 1) (by simp; omega)).trans HC3.out)
    have HCO4 := Lib.hid (HSET.out (-1))
    have HB4 := Lib.hid (HB3.out.setCell (p := ⟨gv, ov + k, none⟩) (by simp; omega) (.int .i64 (-1)))
    have hs4 : (w3.setCell ⟨gv, ov + k, none⟩ (.int .i64 (-1))).heap.size = w3.heap.size := by simp [World.setCell]
    generalize w3.setCell ⟨gv, ov + k, none⟩ (.int .i64 (-1)) = w4 at HP4 HC4 HCO4 HB4 hs4 ⊢
    have p40 : w4.cell? ⟨p, 0, none⟩ = some (.slice (some ⟨g, 0, none⟩) txns.length d1) := cell_of_row _ _ _ _ _ _ HP4.out
    obtain ⟨⟨u, q0⟩, q1, q2⟩ := HCO4.out.setDec (i := t) (by rw [List.length_set]; exact ht) 3
    have HCO5 := Lib.hid q2
    have hgp : ¬ (g = p) := by
      obtain ⟨vs, F, -, -, -, -, -, h6, -⟩ := HCO4.out
      exact (h6 g rfl).2.1
    have hgp2 : ¬ (p = g) := fun e => hgp e.symm
    clear q2 p30 j0 j1 j2
    go_upto_region 5 with (fail)
    have HP5 := Lib.hid ((Below.heap_setCell w4 ⟨g, t * 3 + 2, none⟩ (.int .i64 3) p (by simpa using hgp2)).trans HP4.out)
    have HC5 := Lib.hid ((Below.heap_setCell w4 ⟨g, t * 3 + 2, none⟩ (.int .i64 3) (w.heap.size + 1) (by simp; omega)).trans HC4.out)
    have HB5 := Lib.hid (HB4.out.setCell (p := ⟨g, t * 3 + 2, none⟩) (by simp; omega) (.int .i64 3))
    generalize w4.setCell ⟨g, t * 3 + 2, none⟩ (.int .i64 3) = w5 at HP5 HC5 HCO5 HB5 ⊢
    have p50 : w5.cell? ⟨p, 0, none⟩ = some (.slice (some ⟨g, 0, none⟩) txns.length d1) := cell_of_row _ _ _ _ _ _ HP5.out
    have p51 : w5.cell? ⟨p, 1, none⟩ = some (.slice B2 order.length d2) := cell_of_row _ _ _ _ _ _ HP5.out
    have c50 : w5.cell? ⟨w.heap.size + 1, 0, none⟩ = some (.slice none 0 0) := cell_of_row _ _ _ _ _ _ HC5.out
    have c51 : w5.cell? ⟨w.heap.size + 1, 1, none⟩ = some (.slice none 0 0) := cell_of_row _ _ _ _ _ _ HC5.out
    have g50 : w5.frozen? ⟨w.heap.size + 1, 0, none⟩ = false := frozen_of_row _ _ _ _ _ HC5.out
    have g51 : w5.frozen? ⟨w.heap.size + 1, 1, none⟩ = false := frozen_of_row _ _ _ _ _ HC5.out
    clear p40 q0 q1
    go_wp2_with fail
    exact bodyPost_ret (v := .agg #[.slice (some ⟨g, 0, none⟩) txns.length d1, .slice B2 order.length d2]) (by simp [results, Try.results76, go_sem, c50, c51, g50, g51]) rfl ⟨_, _, _, _, (((HCO5.out.low (by omega) _ _).low (by omega) _ _).base_le (by omega)).other (.inr (by omega)), (HB5.out.setCell (by simp) _).setCell (by simp) _, rfl⟩
  · go_upto_region 7 with (fail)
    have HP4 := Lib.hid ((Below.heap_setCell w3 ⟨gv, ov + k, none⟩ (.int .i64 1) p (by simpa using hnp2)).trans HP3.out)
    have HC4 := Lib.hid ((Below.heap_setCell w3 ⟨gv, ov + k, none⟩ (.int .i64 1) (w.heap.size + 1) (by simp; omega)).trans HC3.out)
    have HCO4 := Lib.hid (HSET.out 1)
    have HB4 := Lib.hid (HB3.out.setCell (p := ⟨gv, ov + k, none⟩) (by simp; omega) (.int .i64 1))
    have hs4 : (w3.setCell ⟨gv, ov + k, none⟩ (.int .i64 1)).heap.size = w3.heap.size := by simp [World.setCell]
    generalize w3.setCell ⟨gv, ov + k, none⟩ (.int .i64 1) = w4 at HP4 HC4 HCO4 HB4 hs4 ⊢
    clear p30 j0 j1 j2
    have p40 : w4.cell? ⟨p, 0, none⟩ = some (.slice (some ⟨g, 0, none⟩) txns.length d1) := cell_of_row _ _ _ _ _ _ HP4.out
    have p41 : w4.cell? ⟨p, 1, none⟩ = some (.slice B2 order.length d2) := cell_of_row _ _ _ _ _ _ HP4.out
    have c40 : w4.cell? ⟨w.heap.size + 1, 0, none⟩ = some (.slice none 0 0) := cell_of_row _ _ _ _ _ _ HC4.out
    have c41 : w4.cell? ⟨w.heap.size + 1, 1, none⟩ = some (.slice none 0 0) := cell_of_row _ _ _ _ _ _ HC4.out
    have g40 : w4.frozen? ⟨w.heap.size + 1, 0, none⟩ = false := frozen_of_row _ _ _ _ _ HC4.out
    have g41 : w4.frozen? ⟨w.heap.size + 1, 1, none⟩ = false := frozen_of_row _ _ _ _ _ HC4.out
    obtain ⟨ts, hts⟩ : ∃ ts, ts = txns.set t ⟨txns[t].parts, txns[t].votes.set k 1, txns[t].dec⟩ := ⟨_, rfl⟩
    have htsl : ts.length = txns.length := by rw [hts, List.length_set]
    rw [← hts] at HCO4
    have htt : t < ts.length := by omega
    have hvl2 : ts[t].votes.length = txns[t].votes.length := by
      subst hts
      simp
    have hrdT := HCO4.out.rd.1
    obtain ⟨bb, oo, hl4, A5, n5, c5, A6, n6, c6, he5, _, hbh5, hc50, hc51, hc52, -, ⟨hn6, hm6, hr6⟩⟩ := rd_Txn hrdT (k := t) (by have := hrdT.len; unfold dTxns at this; omega)
    injection he5 with he5
    injection he5 with he5a he5b
    subst he5a he5b
    have HV6 := Lib.hid hr6.ints
    have hn6' : n6 ≤ 100 := by have := hr6.ints.1; omega
    rw [Nat.zero_add] at hc50 hc51 hc52
    have hn6p : n6 = txns[t].votes.length := by have := hr6.ints.1; omega
    clear hrdT hr6 hc50 hc52 hn6 hm6
    go_wp2_with fail
    go_loop [10] (fun i => ∃ j : Nat, j ≤ n6 ∧ i = .int .i64 j) (fun i => n6 - (intOf i).toNat)
    case atStart => exact ⟨0, Nat.zero_le _, rfl⟩
    case round =>
      obtain ⟨j, hj, rfl⟩ := hrel
      by_cases hlt : j < n6
      · obtain ⟨b7, o7, hl7, rfl, _, hb7, hc7⟩ := HV6.out.int hlt
        generalize ts[t].votes[j] = x at hc7
        by_cases he : x = 1
        · subst he
          go_wp2_with fail
          go_round
          case rel => exact ⟨j + 1, by omega, by go_num⟩
          case measure => simp [intOf]; omega
        · have hd : (x != 1) = true := by simpa using he
          have hd2 : (x == 1) = false := by simpa using he
          clear he
          go_wp2_with fail
          exact bodyPost_ret (v := .agg #[.slice (some ⟨g, 0, none⟩) txns.length d1, .slice B2 order.length d2]) (by simp [results, Try.results76, go_sem, c40, c41, g40, g41]) rfl ⟨_, _, _, _, (((HCO4.out.low (by omega) _ _).low (by omega) _ _).base_le (by omega)).other (.inr (by omega)), (HB4.out.setCell (by simp) _).setCell (by simp) _, rfl⟩
      · have hjn : j = n6 := by omega
        subst hjn
        obtain ⟨⟨u, q0⟩, q1, q2⟩ := HCO4.out.setDec (i := t) htt 2
        have HCO5 := Lib.hid q2
        have hgp : ¬ (g = p) := by
          obtain ⟨vs, F, -, -, -, -, -, h6, -⟩ := HCO4.out
          exact (h6 g rfl).2.1
        have hgp2 : ¬ (p = g) := fun e => hgp e.symm
        clear q2
        go_upto_region 13 with (fail)
        have HP5 := Lib.hid ((Below.heap_setCell w4 ⟨g, t * 3 + 2, none⟩ (.int .i64 2) p (by simpa using hgp2)).trans HP4.out)
        have HC5 := Lib.hid ((Below.heap_setCell w4 ⟨g, t * 3 + 2, none⟩ (.int .i64 2) (w.heap.size + 1) (by simp; omega)).trans HC4.out)
        have HB5 := Lib.hid (HB4.out.setCell (p := ⟨g, t * 3 + 2, none⟩) (by simp; omega) (.int .i64 2))
        have hs5 : (w4.setCell ⟨g, t * 3 + 2, none⟩ (.int .i64 2)).heap.size = w4.heap.size := by simp [World.setCell]
        generalize w4.setCell ⟨g, t * 3 + 2, none⟩ (.int .i64 2) = w5 at HP5 HC5 HCO5 HB5 hs5 ⊢
        have p51 : w5.cell? ⟨p, 1, none⟩ = some (.slice B2 order.length d2) := cell_of_row _ _ _ _ _ _ HP5.out
        have HOR := Lib.hid HCO5.out.order
        have hp5 : p < w5.heap.size := hlt_of HP5.out
        have h2p : (Value.slice B2 order.length d2).ownBlock ≠ some p := fun e => by
          obtain ⟨vs, F, -, -, -, -, -, -, h7⟩ := HCO5.out
          exact (h7 p e).2 rfl
        have h2w : (Value.slice B2 order.length d2).ownBlock ≠ some (w.heap.size + 1) := fun e => by have := (HOR.out.lt _ e).1; omega
        have hw45 : w.heap.size + 1 < w5.heap.size := by omega
        have htn : t ≤ 100 := by omega
        clear p40 p41 q0 q1 c40 c41 g40 g41 hc51 HV6 hs5 hs4 htsl hts hvl2 hn6p
        go_wp2_with (at_builtin; go_must (refine wpList_app_at Try.elI (m := 1) (HOR.out.alloc _) (rd_newn (n := w5.heap.size) rfl [.int .i64 (t : Int)] 3) rfl (by simp [Value.oneCell']) (by unfold maxLen; omega) (by omega) (by first | (simp; done) | (simp; omega)) rfl rfl rfl rfl ?_); intro v6 w6 hown6 hg6 hat6; go_must (have HCO6 := Lib.hid (HCO5.out.appO hp5 hown6 hg6 hat6)); go_must (have HB6 := Lib.hid (below_app (HB5.out.alloc (by omega) _) (by omega : w.heap.size ≤ w1.heap.size + 2) (by first | (simp; done) | (simp; omega)) (HOR.out.alloc _) hg6)); go_must (have HP6 := Lib.hid (((hg6.block p (by first | (simp; done) | (simp; omega)) (fun e => h2p e.symm)).trans (Below.heap_alloc _ _ _ hp5)).trans HP5.out)); go_must (have HC6 := Lib.hid (((hg6.block (w.heap.size + 1) (by first | (simp; done) | (simp; omega)) (fun e => h2w e.symm)).trans (Below.heap_alloc _ _ _ (by omega))).trans HC5.out)); obtain ⟨B6, d6, rfl, -, -, -⟩ := Rd.of_own hown6; clear hown6 hg6 hat6; have s1 : w6.cell? ⟨p, 1, none⟩ = some (.slice B2 order.length d2) := cell_of_row _ _ _ _ _ _ HP6.out; have s0 : w6.cell? ⟨p, 0, none⟩ = some (.slice (some ⟨g, 0, none⟩) txns.length d1) := cell_of_row _ _ _ _ _ _ HP6.out; have sf : w6.frozen? ⟨p, 1, none⟩ = false := frozen_of_row _ _ _ _ _ HP6.out; have c60 : w6.cell? ⟨w.heap.size + 1, 0, none⟩ = some (.slice none 0 0) := cell_of_row _ _ _ _ _ _ HC6.out; have c61 : w6.cell? ⟨w.heap.size + 1, 1, none⟩ = some (.slice none 0 0) := cell_of_row _ _ _ _ _ _ HC6.out; have g60 : w6.frozen? ⟨w.heap.size + 1, 0, none⟩ = false := frozen_of_row _ _ _ _ _ HC6.out; have g61 : w6.frozen? ⟨w.heap.size + 1, 1, none⟩ = false := frozen_of_row _ _ _ _ _ HC6.out; have hwp : ¬ (w.heap.size + 1 = p) := (by omega); have hwp2 : ¬ (p = w.heap.size + 1) := (by omega))
        exact bodyPost_ret (v := .agg #[.slice (some ⟨g, 0, none⟩) txns.length d1, .slice B6 (order.length + 1) d6]) (by simp [results, Try.results76, go_sem, c60, c61, g60, g61, hwp, hwp2]) rfl ⟨_, _, _, _, ((((HCO6.out.box 1 _).low (by omega) _ _).low (by omega) _ _).base_le (by omega)).other (.inr (by omega)), ((HB6.out.setCell (by simp; omega) _).setCell (by simp) _).setCell (by simp) _, rfl⟩

end Go.Proofs.Ytgbkjfhmbchiiaa

namespace Go.Proofs.Ytgbkjfhmbchiiaa
set_option linter.unusedVariables false
set_option linter.unusedSimpArgs false
open Go.RowKit

def r00 : List Int := [-1, -1, -1, -1]
/-- the place of the part of a shard, or -1 -/
def partIx (ps : List PartD) (s : Int) : Int := idxI s (ps.map (·.shard))
def updsOf (ps : List PartD) (s : Int) : List Upd := (ps.getD (partIx ps s).toNat ⟨0, []⟩).us
def stepR (ts : List TxnD) (s : Int) (refs : List Int) (x : Int) : List Int :=
  if 0 ≤ partIx (ts.getD x.toNat ⟨[], [], 0⟩).parts s then setR refs (updsOf (ts.getD x.toNat ⟨[], [], 0⟩).parts s) else refs
def refsTo (ts : List TxnD) (s : Int) (ord : List Int) (k : Nat) : List Int := (ord.take k).foldl (stepR ts s) r00
theorem refsTo_zero (ts : List TxnD) (s : Int) (ord : List Int) : refsTo ts s ord 0 = r00 := by unfold refsTo; simp
theorem refsTo_succ {ts : List TxnD} {s : Int} {ord : List Int} {k : Nat} (h : k < ord.length) : refsTo ts s ord (k + 1) = stepR ts s (refsTo ts s ord k) ord[k] := by
  unfold refsTo
  rw [List.take_succ_eq_append_getElem h, List.foldl_append]; rfl
theorem partIx_lt (ps : List PartD) (s : Int) : -1 ≤ partIx ps s ∧ partIx ps s < ps.length := by
  have := idxI_lt s (ps.map (·.shard))
  rwa [List.length_map] at this
theorem partIx_at {ps : List PartD} {s : Int} {k : Nat} (hl : k < ps.length) (h : s ∉ (ps.map (·.shard)).take k) (he : ps[k].shard = s) : partIx ps s = k :=
  idxI_at (by simpa using hl) h (by simpa using he)
theorem partIx_none {ps : List PartD} {s : Int} {n : Nat} (hl : ps.length = n) (h : s ∉ (ps.map (·.shard)).take n) : partIx ps s = -1 := idxI_none (by simpa using hl) h
theorem part_next {ps : List PartD} {s : Int} {k : Nat} (hl : k < ps.length) (h : s ∉ (ps.map (·.shard)).take k) (he : ¬ ps[k].shard = s) : s ∉ (ps.map (·.shard)).take (k + 1) :=
  take_mem_succ (by simpa using hl) h (by simpa using he)
theorem partsB_upds {ps : List PartD} (h : partsB ps = true) {p : PartD} (hp : p ∈ ps) : updsB p.us = true := by
  obtain ⟨k, hk, rfl⟩ := List.getElem_of_mem hp
  have := (partsB_and h).1 k hk
  rw [part_at hk] at this
  simp only [Bool.and_eq_true] at this
  exact this.1.2
theorem upds_refs {us : List Upd} (h : updsB us = true) : ∀ u ∈ us, 0 ≤ u.ref ∧ u.ref ≤ 3 := fun u hu => ((uokB_iff u).1 ((updsB_asc h).1.mem u hu).1).1
theorem refs_r00 : refsB r00 = true := by decide
/-- the transaction of a number in the order -/
theorem ord_txn {c : CoordD} (h : coordB c = true) {k : Nat} (hk : k < c.order.length) : 0 ≤ c.order[k] ∧ c.order[k].toNat < c.txns.length ∧ partsB (c.txns.getD c.order[k].toNat ⟨[], [], 0⟩).parts = true := by
  obtain ⟨j, hj, he, -⟩ := coordB_order h (List.getElem_mem hk)
  have h1 := (coordB_all h j hj).1
  refine ⟨by omega, by omega, ?_⟩
  rw [show c.order[k].toNat = j by omega]
  exact (txnB_and h1).1
theorem stepR_refs {ts : List TxnD} {s : Int} {refs : List Int} {x : Int} (hr : refsB refs = true) (hp : partsB (ts.getD x.toNat ⟨[], [], 0⟩).parts = true) : refsB (stepR ts s refs x) = true := by
  unfold stepR updsOf
  generalize (ts.getD x.toNat ⟨[], [], 0⟩).parts = ps at hp ⊢
  by_cases h0 : 0 ≤ partIx ps s
  · rw [if_pos h0]
    have hlt := (partIx_lt ps s).2
    have hl : (partIx ps s).toNat < ps.length := by omega
    refine refsB_setR hr (updsB_asc (partsB_upds hp ?_)).1
    rw [List.getD_eq_getElem?_getD, List.getElem?_eq_getElem hl]
    exact List.getElem_mem _
  · rw [if_neg h0]; exact hr
theorem refsTo_refs {c : CoordD} (h : coordB c = true) (s : Int) : ∀ {k : Nat}, k ≤ c.order.length → refsB (refsTo c.txns s c.order k) = true := by
  intro k
  induction k with
  | zero => intro _; rw [refsTo_zero]; exact refs_r00
  | succ k ih =>
    intro hk
    rw [refsTo_succ (by omega)]
    exact stepR_refs (ih (by omega)) (ord_txn h (by omega)).2.2
theorem refsB_len {xs : List Int} (h : refsB xs = true) : xs.length = 4 := by
  unfold refsB at h
  simp only [Bool.and_eq_true, decide_eq_true_eq] at h
  exact h.1
theorem refsTo_len {c : CoordD} (h : coordB c = true) (s : Int) {k : Nat} (hk : k ≤ c.order.length) : (refsTo c.txns s c.order k).length = 4 := refsB_len (refsTo_refs h s hk)

theorem lst4 {xs : List Int} (h : xs.length = 4) : ∃ a b c d, xs = [a, b, c, d] := by
  match xs, h with
  | [a, b, c, d], _ => exact ⟨a, b, c, d, rfl⟩
theorem differ_pos {a b : List Int} (h1 : refsB a = true) (h2 : refsB b = true) : decide (0 < (differL a b).length) = !decide (a = b) := by
  obtain ⟨a0, a1, a2, a3, rfl⟩ := lst4 (refsB_len h1)
  obtain ⟨b0, b1, b2, b3, rfl⟩ := lst4 (refsB_len h2)
  unfold differL
  rw [if_pos ⟨h1, h2⟩]
  by_cases e0 : a0 = b0
  · subst e0
    by_cases e1 : a1 = b1
    · subst e1
      by_cases e2 : a2 = b2
      · subst e2
        by_cases e3 : a3 = b3
        · subst e3
          simp [List.range, List.range.loop, differAt]
        · simp [List.range, List.range.loop, differAt, e3]
      · simp [List.range, List.range.loop, differAt, e2]
    · simp [List.range, List.range.loop, differAt, e1]
  · simp [List.range, List.range.loop, differAt, e0]

/-- the shards whose refs differ -/
def difAt (c : CoordD) (a b : Int) (k : Nat) : Bool := !decide (refsTo c.txns k c.order a.toNat = refsTo c.txns k c.order b.toNat)
def difTo (c : CoordD) (a b : Int) (k : Nat) : List Int := ((List.range k).filter (difAt c a b)).map fun (k : Nat) => (k : Int)
def okSn (c : CoordD) (a b : Int) : Bool := coordB c && inR a 0 c.order.length && inR b 0 c.order.length
def difL (c : CoordD) (a b : Int) : List Int := if okSn c a b = true then difTo c a b 3 else []
theorem difTo_zero (c : CoordD) (a b : Int) : difTo c a b 0 = [] := rfl
theorem difTo_succ (c : CoordD) (a b : Int) (k : Nat) : difTo c a b (k + 1) = if difAt c a b k = true then difTo c a b k ++ [(k : Int)] else difTo c a b k := by
  unfold difTo
  rw [List.range_succ, List.filter_append, List.map_append]
  by_cases h : difAt c a b k = true
  · rw [if_pos h]; simp [h]
  · rw [if_neg h]; simp [h]
theorem difTo_len (c : CoordD) (a b : Int) (k : Nat) : (difTo c a b k).length ≤ k := by
  unfold difTo
  rw [List.length_map]
  have := List.length_filter_le (difAt c a b) (List.range k)
  rwa [List.length_range] at this
theorem difL_yes {c : CoordD} {a b : Int} (h : okSn c a b = true) : difL c a b = difTo c a b 3 := by unfold difL; rw [if_pos h]
theorem difL_no {c : CoordD} {a b : Int} (h : okSn c a b = false) : difL c a b = [] := by unfold difL; rw [h]; rfl

end Go.Proofs.Ytgbkjfhmbchiiaa
