/-
  Plain laws on shards: committed transactions are those whose state says so, locks are those of prepared transactions, what a decision leaves. No program in sight.
  Words for the walks of the laws on shards: a variable that holds a shard or a state, kept across calls. No condition.
-/
import Derived.Test.YtgnhanbdfohjaaaDecI
import Derived.Test.YtgnhanbdfohjaaaLocksOf
import Derived.Test.YtgnhanbdfohjaaaSameSh
import Derived.Test.YtgnhanbdfohjaaaDrawDec
namespace Go.Proofs.Ytgnhanbdfohjaaa
set_option linter.unusedVariables false
set_option linter.unusedSimpArgs false
open Go.RowKit

theorem hist_valid {rs : List Rec} (h : shardB rs = true) : Hist rs (recov rs).1 := hist_of (by unfold shardB at h; exact (Bool.and_eq_true _ _ |>.mp h).1)
theorem recov_valid {rs : List Rec} (h : shardB rs = true) : (recov rs).2 = true := by unfold shardB at h; exact (Bool.and_eq_true _ _ |>.mp h).1
theorem len_valid {rs : List Rec} (h : shardB rs = true) : rs.length ≤ 30 := by unfold shardB at h; simpa using (Bool.and_eq_true _ _ |>.mp h).2
theorem shardB_take {rs : List Rec} (h : shardB rs = true) (k : Nat) : shardB (rs.take k) = true := by
  have h1 := recov_take (recov_valid h) k
  have h2 := len_valid h
  unfold shardB; rw [h1]; simp [List.length_take]; omega

theorem com_ask {rs : List Rec} {s : St} (h : Hist rs s) (t : Int) : t ∈ comL rs ↔ askK rs t = 2 := by
  induction h with
  | nil => simp [comL, askK, lastRc_nil, kindO]
  | @snoc rs s r h1 h2 ih =>
    rw [comL_snoc, askK_snoc]
    rcases ((stepB_iff rs s r).1 h2).2 with ⟨hk, ha, -⟩ | ⟨hk, ha, -⟩ | ⟨hk, ha, -⟩
    · rw [if_neg (show ¬ r.kind = 2 by omega), ih]
      by_cases ht : r.txn = t
      · rw [if_pos ht]; subst ht; omega
      · rw [if_neg ht]
    · rw [if_pos hk, List.mem_append, List.mem_singleton, ih]
      by_cases ht : r.txn = t
      · rw [if_pos ht]; simp [ht, hk]
      · rw [if_neg ht]; simp [Ne.symm ht]
    · rw [if_neg (show ¬ r.kind = 2 by omega), ih]
      by_cases ht : r.txn = t
      · rw [if_pos ht]; subst ht; omega
      · rw [if_neg ht]
theorem com_nodup {rs : List Rec} {s : St} (h : Hist rs s) : (comL rs).Nodup := by
  induction h with
  | nil => simp [comL]
  | @snoc rs s r h1 h2 ih =>
    rw [comL_snoc]
    by_cases hk : r.kind = 2
    · rw [if_pos hk, List.nodup_append]
      refine ⟨ih, by simp, fun x hx y hy => ?_⟩
      rw [List.mem_singleton] at hy
      subst hy
      rintro rfl
      have h3 := (com_ask h1 _).1 hx
      rcases ((stepB_iff rs s r).1 h2).2 with ⟨hk', -⟩ | ⟨-, ha, -⟩ | ⟨hk', -⟩ <;> omega
    · rw [if_neg hk]; exact ih
theorem com_range {rs : List Rec} {s : St} (h : Hist rs s) {t : Int} (ht : t ∈ comL rs) : txB t = true := by
  unfold comL at ht
  obtain ⟨r, hr, rfl⟩ := List.mem_map.1 ht
  exact (h.inv.rec_ r (List.mem_filter.1 hr).1).1

/-- how many numbers below k are among xs -/
def cntL (xs : List Int) : Nat → Nat
  | 0 => 0
  | k + 1 => cntL xs k + if (k : Int) ∈ xs then 1 else 0
theorem cntL_yes {xs : List Int} {k : Nat} (h : (k : Int) ∈ xs) : cntL xs (k + 1) = cntL xs k + 1 := by simp [cntL, h]
theorem cntL_no {xs : List Int} {k : Nat} (h : ¬ (k : Int) ∈ xs) : cntL xs (k + 1) = cntL xs k := by simp [cntL, h]
theorem cntL_le (xs : List Int) : ∀ k, cntL xs k ≤ k
  | 0 => Nat.le_refl _
  | k + 1 => by
    have := cntL_le xs k
    simp only [cntL]; split <;> omega
theorem cntL_cons {x : Int} {xs : List Int} (h0 : 0 ≤ x) (hx : x ∉ xs) : ∀ k : Nat, cntL (x :: xs) k = cntL xs k + if x < (k : Int) then 1 else 0
  | 0 => by simp [cntL]; omega
  | k + 1 => by
    simp only [cntL]
    rw [cntL_cons h0 hx k]
    by_cases hk : (k : Int) = x
    · rw [if_pos (show (k : Int) ∈ x :: xs by simp [hk]), if_neg (show ¬ (k : Int) ∈ xs by rw [hk]; exact hx), if_neg (show ¬ x < (k : Int) by omega), if_pos (show x < ((k + 1 : Nat) : Int) by omega)]
    · have e : ((k : Int) ∈ x :: xs) ↔ (k : Int) ∈ xs := by simp [hk]
      have e2 : (x < ((k + 1 : Nat) : Int)) ↔ x < (k : Int) := by omega
      simp only [e, e2]
      omega
theorem cntL_all {xs : List Int} (hn : xs.Nodup) : ∀ (_ : ∀ x ∈ xs, txB x = true), cntL xs 12 = xs.length := by
  induction xs with
  | nil => intro _; simp [cntL]
  | cons x xs ih =>
    intro hr
    rw [List.nodup_cons] at hn
    have hx := (txB_iff _).1 (hr x (by simp))
    rw [cntL_cons hx.1 hn.1, ih hn.2 (fun y hy => hr y (by simp [hy])), if_pos (show x < ((12 : Nat) : Int) by omega)]
    rfl

theorem txN {k : Nat} (h : k < 12) : txB (k : Int) = true := by rw [txB_iff]; omega
/-- what ShardAsk says of a transaction, and whether it is among the committed -/
theorem ask_com {rs : List Rec} (h : shardB rs = true) {k : Nat} (hk : k < 12) : (askV rs k = 2) ↔ (k : Int) ∈ comV rs := by
  rw [askV_yes h (txN hk), comV_yes h, com_ask (hist_valid h)]
theorem com_count {rs : List Rec} (h : shardB rs = true) : cntL (comV rs) 12 = (comV rs).length := by
  rw [comV_yes h]
  exact cntL_all (com_nodup (hist_valid h)) (fun x hx => com_range (hist_valid h) hx)

/-- locks of valid records -/
theorem locks_ok {rs : List Rec} {s : St} (h : Hist rs s) : locksB s.locks = true := by
  unfold locksB lksB
  have I := h.inv
  rw [Bool.and_eq_true, decide_eq_true_iff, List.all_eq_true]
  refine ⟨I.llen, fun x hx => ?_⟩
  obtain ⟨r, h0, h3, rfl⟩ := mem_getR I.llen hx
  rcases (I.lock r h0 h3).1 with h | h
  · unfold lkB; simp [h]
  · unfold lkB; rw [h]; simp
theorem ask_prep {rs : List Rec} {s : St} (h : Hist rs s) {t : Int} : askK rs t = 1 ↔ ∃ r, lastRc rs t = some r ∧ r.kind = 1 := by
  unfold askK
  rcases hl : lastRc rs t with _ | r
  · simp [kindO]
  · simp [kindO]
theorem lock_ask {rs : List Rec} {s : St} (h : Hist rs s) {t : Int} (h0 : 0 ≤ t) : t ∈ s.locks ↔ askK rs t = 1 := by
  have I := h.inv
  rw [ask_prep h]
  constructor
  · intro ht
    obtain ⟨x, hx0, hx3, hx⟩ := mem_getR I.llen ht
    obtain ⟨r, h1, h2, -⟩ := ((I.lock x hx0 hx3).2 t h0).1 hx
    exact ⟨r, h1, h2⟩
  · rintro ⟨r, h1, h2⟩
    have hr := I.rec_ r (lastRc_mem h1).1
    have hu : updsB r.us = true := by
      rcases hr.2 with h | h
      · exact h.2
      · omega
    obtain ⟨ha, hne⟩ := updsB_asc hu
    rcases hus : r.us with _ | ⟨u, us⟩
    · exact absurd hus hne
    · have hm : u ∈ r.us := by rw [hus]; simp
      have hur := ((uokB_iff u).1 (ha.mem u hm).1).1
      have := ((I.lock u.ref hur.1 hur.2).2 t h0).2 ⟨r, h1, h2, by rw [look_mem ha hm]; rfl⟩
      rw [← this]
      exact getR_mem I.llen hur.1 hur.2
/-- the refs that a transaction has locked, and its state -/
theorem lof_ask {rs : List Rec} (h : shardB rs = true) {k : Nat} (hk : k < 12) : (0 < (lofV (recov rs).1.locks k).length) ↔ askV rs k = 1 := by
  have H := hist_valid h
  rw [lofV_yes (locks_ok H) (txN hk), askV_yes h (txN hk), ← lock_ask H (by omega)]
  exact lofF_pos _ _ 0
/-- a lock's transaction is prepared -/
theorem lock_prep {rs : List Rec} (h : shardB rs = true) {x : Int} (h0 : 0 ≤ x) (h3 : x ≤ 3) (hx : 0 ≤ getR (recov rs).1.locks x) : askV rs (getR (recov rs).1.locks x) = 1 := by
  have H := hist_valid h
  have I := H.inv
  have hm := getR_mem I.llen h0 h3
  have ht : txB (getR (recov rs).1.locks x) = true := by
    rcases (I.lock x h0 h3).1 with h | h
    · omega
    · exact h
  rw [askV_yes h ht]
  exact (lock_ask H hx).1 hm

/-- where a decision has been taken -/
theorem dec_ok {rs : List Rec} {t : Int} {commit : Bool} (h : decB rs t commit = true) : shardB rs = true ∧ txB t = true ∧ shardB (decL rs t commit) = true ∧ askK (decL rs t commit) t = kindOf commit := by
  have h1 : shardB rs = true := by
    rcases hv : shardB rs with _ | _
    · rw [(dec_no commit (.inl hv)).2] at h; cases h
    · rfl
  have h2 : txB t = true := by
    rcases hv : txB t with _ | _
    · rw [(dec_no commit (.inr hv)).2] at h; cases h
    · rfl
  refine ⟨h1, h2, ?_⟩
  by_cases hk : askK rs t = kindOf commit
  · rw [(dec_known h1 h2 hk).1]; exact ⟨h1, hk⟩
  · obtain ⟨e1, e2⟩ := dec_new h1 h2 hk
    rw [e2] at h
    rw [e1, addL_yes h]
    refine ⟨h, ?_⟩
    rw [askK_snoc, if_pos rfl]
theorem kindOf_ne (c : Bool) : kindOf (!c) ≠ kindOf c := by cases c <;> decide
theorem kindOf_23 (c : Bool) : kindOf c = 2 ∨ kindOf c = 3 := by cases c <;> simp [kindOf]
/-- what is decided stays so -/
theorem dec_twice {rs : List Rec} {t : Int} {commit : Bool} (h1 : shardB rs = true) (h2 : txB t = true) (h3 : askK rs t = kindOf commit) :
    decL rs t commit = rs ∧ decB rs t commit = true ∧ decL rs t (!commit) = rs ∧ decB rs t (!commit) = false := by
  obtain ⟨e1, e2⟩ := dec_known h1 h2 h3
  have hne : ¬ askK rs t = kindOf (!commit) := by rw [h3]; exact (kindOf_ne commit).symm
  obtain ⟨e3, e4⟩ := dec_new h1 h2 hne
  have hno : shardB (rs ++ [⟨kindOf (!commit), t, []⟩]) = false := by
    rw [shardB_snoc h1]
    have : stepB rs (recov rs).1 ⟨kindOf (!commit), t, []⟩ = false := by
      rw [← Bool.not_eq_true]
      intro hs
      rcases ((stepB_iff _ _ _).1 hs).2 with ⟨hk, -⟩ | ⟨-, ha, -⟩ | ⟨-, ha, -⟩
      · rcases kindOf_23 (!commit) with h | h <;> (have hk' : kindOf (!commit) = 1 := hk; omega)
      · have ha' : askK rs t = 1 := ha
        rcases kindOf_23 commit with h | h <;> omega
      · have ha' : askK rs t = 0 ∨ askK rs t = 1 := ha
        rcases kindOf_23 commit with h | h <;> omega
    rw [this]; rfl
  exact ⟨e1, e2, by rw [e3, addL_no hno], by rw [e4, hno]⟩
/-- a decision concerns one transaction -/
theorem dec_other {rs : List Rec} {t : Int} {commit : Bool} (h : decL rs t commit ≠ []) : shardB rs = true ∧ shardB (decL rs t commit) = true ∧ ∀ x : Int, x ≠ t → askV (decL rs t commit) x = askV rs x := by
  have h1 : shardB rs = true := by
    rcases hv : shardB rs with _ | _
    · exact absurd (dec_no commit (.inl hv)).1 h
    · rfl
  have h2 : txB t = true := by
    rcases hv : txB t with _ | _
    · exact absurd (dec_no commit (.inr hv)).1 h
    · rfl
  refine ⟨h1, ?_⟩
  by_cases hk : askK rs t = kindOf commit
  · rw [(dec_known h1 h2 hk).1]; exact ⟨h1, fun x _ => rfl⟩
  · rw [(dec_new h1 h2 hk).1]
    rcases hv : shardB (rs ++ [⟨kindOf commit, t, []⟩]) with _ | _
    · rw [addL_no hv]; exact ⟨h1, fun x _ => rfl⟩
    · rw [addL_yes hv]
      refine ⟨hv, fun x hx => ?_⟩
      unfold askV
      rw [h1, hv, askK_snoc, if_neg (show ¬ t = x from fun e => hx e.symm)]
/-- a shard that a decision has left is calm -/
theorem calm_dec {rs : List Rec} {t : Int} {commit : Bool} : Calm (decL rs t commit) := by
  by_cases h : decL rs t commit = []
  · rw [h]; exact calm_valid rfl
  · exact calm_valid (recov_valid (dec_other h).2.1)
/-- only what is prepared can be committed -/
theorem dec_unknown {rs : List Rec} {t : Int} (h1 : shardB rs = true) (h2 : txB t = true) :
    decB rs t true = (decide (askV rs t = 2) || (decide (askV rs t = 1) && decide (rs.length < 30))) ∧ (decB rs t true = false → decL rs t true = rs) := by
  rw [askV_yes h1 h2]
  by_cases hk : askK rs t = kindOf true
  · have hk' : askK rs t = 2 := hk
    rw [(dec_known h1 h2 hk).2]
    exact ⟨by simp [hk'], fun h => by cases h⟩
  · obtain ⟨e3, e4⟩ := dec_new h1 h2 hk
    have hk' : ¬ askK rs t = 2 := hk
    have hl := len_valid h1
    rw [e4]
    refine ⟨?_, fun h => by rw [e3, addL_no h]⟩
    rw [shardB_snoc h1]
    have hs : stepB rs (recov rs).1 ⟨kindOf true, t, []⟩ = decide (askK rs t = 1) := by
      rw [Bool.eq_iff_iff, stepB_iff, decide_eq_true_iff]
      constructor
      · rintro ⟨-, ⟨h, -⟩ | ⟨-, h, -⟩ | ⟨h, -⟩⟩
        · exact absurd h (by simp [kindOf])
        · exact h
        · exact absurd h (by simp [kindOf])
      · intro h; exact ⟨h2, .inr (.inl ⟨rfl, h, rfl⟩)⟩
    rw [hs, decide_eq_false hk', Bool.false_or]
    congr 1
    rw [← decide_not]
    exact decide_eq_decide.2 (by omega)
/-- a commit performs the updates -/
theorem dec_commit {rs : List Rec} {t : Int} (h1 : shardB rs = true) (h2 : txB t = true) (h3 : askK rs t = 1) (hb : decB rs t true = true) :
    decL rs t true = rs ++ [⟨2, t, []⟩] ∧ shardB (rs ++ [⟨2, t, []⟩]) = true ∧ askV (rs ++ [⟨2, t, []⟩]) t = 2 ∧ comV (rs ++ [⟨2, t, []⟩]) = comV rs ++ [t] ∧
    ∀ x : Int, 0 ≤ x → x ≤ 3 → (getR (recov rs).1.locks x ≠ t → getR (recov (rs ++ [⟨2, t, []⟩])).1.refs x = getR (recov rs).1.refs x ∧ getR (recov (rs ++ [⟨2, t, []⟩])).1.locks x = getR (recov rs).1.locks x) ∧
      (getR (recov rs).1.locks x = t → getR (recov (rs ++ [⟨2, t, []⟩])).1.locks x = -1 ∧ getR (recov (rs ++ [⟨2, t, []⟩])).1.refs x ≠ getR (recov rs).1.refs x) := by
  have hne : ¬ askK rs t = kindOf true := by rw [h3]; decide
  obtain ⟨e3, e4⟩ := dec_new h1 h2 hne
  have hv : shardB (rs ++ [⟨2, t, []⟩]) = true := by rw [e4] at hb; exact hb
  have htx := (txB_iff _).1 h2
  have H := hist_valid h1
  have I := H.inv
  obtain ⟨q, hq, hqk⟩ := (ask_prep H).1 h3
  have hP := I.prep t q hq hqk
  have hqu : updsB q.us = true := by
    rcases (I.rec_ q (lastRc_mem hq).1).2 with h | h
    · exact h.2
    · omega
  have hA := (updsB_asc hqu).1
  have hst : stepB rs (recov rs).1 ⟨2, t, []⟩ = true := (stepB_iff _ _ _).2 ⟨h2, .inr (.inl ⟨rfl, h3, rfl⟩)⟩
  have hre : (recov (rs ++ [⟨2, t, []⟩])).1 = ⟨setR (recov rs).1.refs q.us, freeL (recov rs).1.locks t⟩ := by
    rw [recov_snoc, if_pos (recov_valid h1), if_pos hst]
    show stepS rs (recov rs).1 ⟨2, t, []⟩ = _
    unfold stepS
    rw [if_neg (by simp), if_pos rfl]
    show (⟨setR (recov rs).1.refs (prepU rs t), freeL (recov rs).1.locks t⟩ : St) = _
    rw [hP.1]
  have hrl := ((refsB_iff _).1 I.refs).1
  refine ⟨by rw [e3]; exact addL_yes hv, hv, ?_, ?_, fun x h0 h4 => ?_⟩
  · rw [askV_yes hv h2, askK_snoc, if_pos rfl]
  · rw [comV_yes hv, comV_yes h1, comL_snoc, if_pos rfl]
  · rw [hre]
    show (_ → getR (setR (recov rs).1.refs q.us) x = _ ∧ getR (freeL (recov rs).1.locks t) x = _) ∧ (_ → getR (freeL (recov rs).1.locks t) x = -1 ∧ getR (setR (recov rs).1.refs q.us) x ≠ _)
    rw [getR_freeL I.llen h0 h4, getR_setR hA (Int.le_refl 0) hrl h0]
    have hL := (I.lock x h0 h4).2 t htx.1
    constructor
    · intro hx
      rw [if_neg hx]
      refine ⟨?_, rfl⟩
      rcases hl : look q.us x with _ | u
      · rfl
      · exact absurd (hL.2 ⟨q, hq, hqk, by rw [hl]; rfl⟩) hx
    · intro hx
      rw [if_pos hx]
      refine ⟨rfl, ?_⟩
      obtain ⟨q', hq', -, hs⟩ := hL.1 hx
      rw [hq] at hq'
      injection hq' with hq'
      subst hq'
      obtain ⟨u, hu⟩ := Option.isSome_iff_exists.1 hs
      rw [hu]
      have hum := look_some hu
      have hf := (fitsR_iff _ _).1 hP.2 u hum.1
      have hok := ((uokB_iff u).1 (hA.mem u hum.1).1).2.2.2
      rw [hum.2] at hf
      show u.new_ ≠ _
      rw [hf]
      exact fun e => hok e.symm

end Go.Proofs.Ytgnhanbdfohjaaa

namespace Go.Proofs.Ytgnhanbdfohjaaa
set_option linter.unusedVariables false
set_option linter.unusedSimpArgs false
open Go.RowKit

/-- the variable in block b holds a shard, whose records lie from lo on -/
structure Bx (lo : Nat) (W : World) (b : Nat) (A : Option Addr) (n c : Nat) (rs : List RecC) : Prop where
  blk : W.heap[b]? = some (.cells #[.slice A n c] 25 (0, 0))
  recs : Recs W lo A n rs
section
variable {lo b n c : Nat} {W W' : World} {A : Option Addr} {rs : List RecC}
theorem Bx.bel (h : Bx lo W b A n c rs) (hb : Below W.heap.size W W') : Bx lo W' b A n c rs := ⟨(hb.block _ (heap_lt h.blk)).trans h.blk, h.recs.bel hb⟩
theorem Bx.alloc (h : Bx lo W b A n c rs) (o : Obj) : Bx lo (W.alloc o) b A n c rs := ⟨(Below.heap_alloc _ _ _ (heap_lt h.blk)).trans h.blk, h.recs.alloc o⟩
theorem Bx.drewN (h : Bx lo W b A n c rs) (k : Nat) : Bx lo (W.drewN k) b A n c rs := ⟨h.blk, h.recs.drewN k⟩
theorem Bx.cell (h : Bx lo W b A n c rs) : W.cell? ⟨b, 0, none⟩ = some (.slice A n c) := cell_zero h.blk
theorem Bx.lt (h : Bx lo W b A n c rs) : b < W.heap.size := heap_lt h.blk
theorem Bx.mk0 (h : Recs W lo A n rs) : Bx lo (W.alloc (.cells #[.slice A n c] 25)) W.heap.size A n c rs := ⟨heap_alloc_new _ _, h.alloc _⟩
end
/-- the variable in block b holds a state, whose rows lie from lo on -/
structure Sx (lo : Nat) (W : World) (b : Nat) (A1 : Option Addr) (k1 c1 : Nat) (A2 : Option Addr) (k2 c2 : Nat) (xs ys : List Int) : Prop where
  blk : W.heap[b]? = some (.cells #[.slice A1 k1 c1, .slice A2 k2 c2] 30 (0, 0))
  refs : FlH ci W lo A1 k1 xs
  locks : FlH ci W lo A2 k2 ys
section
variable {lo b k1 c1 k2 c2 : Nat} {W W' : World} {A1 A2 : Option Addr} {xs ys : List Int}
theorem Sx.bel (h : Sx lo W b A1 k1 c1 A2 k2 c2 xs ys) (hb : Below W.heap.size W W') : Sx lo W' b A1 k1 c1 A2 k2 c2 xs ys := ⟨(hb.block _ (heap_lt h.blk)).trans h.blk, h.refs.bel hb, h.locks.bel hb⟩
theorem Sx.alloc (h : Sx lo W b A1 k1 c1 A2 k2 c2 xs ys) (o : Obj) : Sx lo (W.alloc o) b A1 k1 c1 A2 k2 c2 xs ys := ⟨(Below.heap_alloc _ _ _ (heap_lt h.blk)).trans h.blk, h.refs.alloc o, h.locks.alloc o⟩
theorem Sx.drewN (h : Sx lo W b A1 k1 c1 A2 k2 c2 xs ys) (k : Nat) : Sx lo (W.drewN k) b A1 k1 c1 A2 k2 c2 xs ys := ⟨h.blk, h.refs.drewN k, h.locks.drewN k⟩
theorem Sx.cell0 (h : Sx lo W b A1 k1 c1 A2 k2 c2 xs ys) : W.cell? ⟨b, 0, none⟩ = some (.slice A1 k1 c1) := cell_zero h.blk
theorem Sx.cell1 (h : Sx lo W b A1 k1 c1 A2 k2 c2 xs ys) : W.cell? ⟨b, 1, none⟩ = some (.slice A2 k2 c2) := by rw [cell_of_row W b 1 _ _ _ h.blk]; rfl
theorem Sx.lt (h : Sx lo W b A1 k1 c1 A2 k2 c2 xs ys) : b < W.heap.size := heap_lt h.blk
theorem Sx.mk0 (h : FlH ci W lo A1 k1 xs) (h' : FlH ci W lo A2 k2 ys) : Sx lo (W.alloc (.cells #[.slice A1 k1 c1, .slice A2 k2 c2] 30)) W.heap.size A1 k1 c1 A2 k2 c2 xs ys := ⟨heap_alloc_new _ _, h.alloc _, h'.alloc _⟩
end
theorem FlH.getR {w : World} {lo n : Nat} {A : Option Addr} {xs : List Int} (h : FlH ci w lo A n xs) {k : Nat} (hk : k < n) :
    ∃ b o, A = some ⟨b, o, none⟩ ∧ lo ≤ b ∧ b < w.heap.size ∧ w.cell? ⟨b, o + k, none⟩ = some (.int .i64 (Go.Proofs.Ytgnhanbdfohjaaa.getR xs k)) := by
  obtain ⟨b, o, hl, rfl, g1, g2, hc⟩ := Fl.int h hk
  refine ⟨b, o, rfl, g1, g2, ?_⟩
  unfold Go.Proofs.Ytgnhanbdfohjaaa.getR
  rw [List.getD_eq_getElem?_getD, Int.toNat_natCast, List.getElem?_eq_getElem hl]
  exact hc
theorem Sx.at0 {lo b k1 c1 k2 c2 : Nat} {W : World} {A1 A2 : Option Addr} {xs ys : List Int} (h : Sx lo W b A1 k1 c1 A2 k2 c2 xs ys) {k : Nat} (hk : k < k1) :
    ∃ b o, A1 = some ⟨b, o, none⟩ ∧ lo ≤ b ∧ b < W.heap.size ∧ W.cell? ⟨b, o + k, none⟩ = some (.int .i64 (Go.Proofs.Ytgnhanbdfohjaaa.getR xs k)) := h.refs.getR hk
theorem Sx.at1 {lo b k1 c1 k2 c2 : Nat} {W : World} {A1 A2 : Option Addr} {xs ys : List Int} (h : Sx lo W b A1 k1 c1 A2 k2 c2 xs ys) {k : Nat} (hk : k < k2) :
    ∃ b o, A2 = some ⟨b, o, none⟩ ∧ lo ≤ b ∧ b < W.heap.size ∧ W.cell? ⟨b, o + k, none⟩ = some (.int .i64 (Go.Proofs.Ytgnhanbdfohjaaa.getR ys k)) := h.locks.getR hk
theorem below_tr {B : Nat} {w W W' : World} (h : Below B w W) (hs : B ≤ w.heap.size) (hb : Below W.heap.size W W') : Below B w W' := h.trans (hb.mono (Nat.le_trans hs h.size))
theorem below_draw {B : Nat} {w W : World} (h : Below B w W) (k : Nat) : Below B w (W.drewN k) := below_drewN h k

end Go.Proofs.Ytgnhanbdfohjaaa
