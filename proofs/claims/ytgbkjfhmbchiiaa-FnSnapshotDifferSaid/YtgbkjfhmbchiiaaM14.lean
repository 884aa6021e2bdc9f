/-
  The walk of DrawSnapshotDiffer. Condition: the code is a row of bytes.
  What records and shards are, in plain Lean: the last record of a transaction, the state behind records, and what holds of valid records. No program in sight.
  Records in memory: rows of updates and rows of records that lie in blocks from 'lo' on, read as plain lists, and how such a reading is kept. No condition.
  The walks of l12Txn, l21Ask, l21Updates of the reference: a transaction's state and updates among records. Condition: lengths fit an int64.
-/
import Derived.Test.YtgbkjfhmbchiiaaM13
import Derived.Test.YtgbkjfhmbchiiaaM6
import Derived.Test.YtgbkjfhmbchiiaaM1
namespace Go.Proofs.Ytgbkjfhmbchiiaa
set_option linter.unusedVariables false
set_option linter.unusedSimpArgs false
open Go.RowKit

/-- a drawn coordinator and two numbers, handed back -/
def DrawnN (w : World) (e : Ending) (w' : World) : Prop := ∃ (A0 : Option Addr) (c0 : Nat) (A1 : Option Addr) (c1 : Nat) (ts : List TxnD) (os : List Int) (a b : Int), CoO w' (w.heap.size + 1) w.heap.size (.slice A0 ts.length c0) ts (.slice A1 os.length c1) os ∧ DrB 13 ts os ∧ Below w.heap.size w w' ∧ e = .returned (.tuple #[.agg #[.slice A0 ts.length c0, .slice A1 os.length c1], .int .i64 a, .int .i64 b])

set_option maxHeartbeats 1600000 in
set_option maxRecDepth 100000 in
theorem drawDiffer_any (A : Option Addr) (n c : Nat) (zs : List Int) (w : World) (h : IsRow .u8 w A n c zs) :
    Calls Try.prog 16 #[.slice A n c] w fun e w' => DrawnN w e w' := by
  have HI := Lib.hid (isRow_below h ((Below.refl _ _).alloc (Nat.le_refl _) (.cells #[.slice none 0 0, .slice none 0 0] 26)) (Nat.le_refl _))
  have hnew := Lib.hid (heap_alloc_new w (.cells #[.slice none 0 0, .slice none 0 0] 26))
  clear h
  go_enter Try.func16, Try.ntmps16
  go_wp2_with fail
  refine (l6Open_any _ _ _ zs _ HI.out).mono ?_
  rintro e w1 ⟨hR1, hb1, hs1, he⟩
  have hsz : (w.alloc (.cells #[.slice none 0 0, .slice none 0 0] 26)).heap.size = w.heap.size + 1 := by simp
  rw [hsz] at hR1 hb1 hs1 he
  subst he
  have HR1 := Lib.hid hR1
  have HB1 : Hid (Below w.heap.size w w1) := ((Below.refl _ _).alloc (Nat.le_refl _) _).trans (hb1.mono (by simp))
  have HX1 : Hid (w1.heap[w.heap.size]? = some (.cells #[.slice none 0 0, .slice none 0 0] 26 (0, 0))) := (hb1.block _ (by omega)).trans hnew.out
  have hs1' : w.heap.size + 2 ≤ w1.heap.size := by omega
  clear hR1 hb1 hs1 hsz
  go_wp2_with fail
  refine (l92Coordinator_any (w.heap.size + 1) 0 _ (by omega) HR1.out).mono ?_
  rintro e w2 ⟨v1, v2, ts, os, hco, hdb, hT2, rfl⟩
  obtain ⟨A0, c0, A1, c1, rfl, rfl⟩ := hco.vals
  have HDB := Lib.hid hdb
  have ht12 : ts.length ≤ 12 := hdb.1
  have HB2 := Lib.hid (below_dr HB1.out hT2 (by omega))
  have HX2 := Lib.hid ((hT2.1.block _ (by omega) (fun e => by injection e with e; omega)).trans HX1.out)
  obtain ⟨y, hy⟩ : ∃ y, y = w2.heap.size := ⟨_, rfl⟩
  have hwy : w.heap.size + 1 < y := by have := hT2.1.size; omega
  obtain ⟨w3, hw3⟩ : ∃ w3, w3 = w2.alloc (.cells #[.slice A0 ts.length c0, .slice A1 os.length c1] 26) := ⟨_, rfl⟩
  have hb3 : Below w2.heap.size w2 w3 := by rw [hw3]; exact (Below.refl _ _).alloc (Nat.le_refl _) _
  have HY3 : Hid (w3.heap[y]? = some (.cells #[.slice A0 ts.length c0, .slice A1 os.length c1] 26 (0, 0))) := by rw [hw3, hy]; exact Lib.hid (heap_alloc_new w2 _)
  have HB3 := Lib.hid (bel_tr HB2.out (Nat.le_refl _) hb3)
  have HX3 := Lib.hid ((hb3.block _ (by omega)).trans HX2.out)
  have HCO3 := Lib.hid (hco.fresh hb3)
  have HR3 : Hid (Rdr w3 (w.heap.size + 1) 30000) := by rw [hw3]; exact Lib.hid (hT2.2.alloc _)
  have hb1s : w.heap.size + 1 < w1.heap.size := by omega
  clear hco hdb hT2 HB2 HX2 HB1 HX1 HR1
  go_upto_region 3 with (fail)
  rw [← hw3, ← hy]
  clear hw3 hy hb3
  have y1 : w3.cell? ⟨y, 1, none⟩ = some (.slice A1 os.length c1) := cell_of_row _ _ _ _ _ _ HY3.out
  have hyl : y < w3.heap.size := hlt_of HY3.out
  have hne1 : ¬ (w.heap.size = y) := by omega
  have hne2 : ¬ (y = w.heap.size) := by omega
  have ho13 : os.length ≤ 13 := HDB.out.2.1
  go_wp2_with fail
  refine (pick_any (w.heap.size + 1) 30000 _ _ (by omega) HR3.out).mono ?_
  rintro e w4 ⟨r4, hr4, hR4, hg4, -, rfl⟩
  have HD4 := Lib.hid (show DrawT w3 w4 (w.heap.size + 1) 30001 from ⟨hg4, hR4⟩)
  have hr40 := hr4.1
  have hr41 := hr4.2 (by omega)
  clear hr4 hR4 hg4
  go_wp2_with fail
  refine (pick_any (w.heap.size + 1) 30001 _ _ (by omega) HD4.out.2).mono ?_
  rintro e w5 ⟨r5, hr5, hR5, hg5, -, rfl⟩
  have HD5 := Lib.hid (HD4.out.step hg5 hR5)
  have hr50 := hr5.1
  have hr51 := hr5.2 (by omega)
  have hbk : ∀ z, z < w3.heap.size → z ≠ w.heap.size + 1 → w5.heap[z]? = w3.heap[z]? := fun z hz hne => HD5.out.1.block z hz (fun e => by injection e with e; omega)
  have HY5 := Lib.hid ((hbk y hyl (by omega)).trans HY3.out)
  have HX5 := Lib.hid ((hbk w.heap.size (hlt_of HX3.out) (by omega)).trans HX3.out)
  have HB5 := Lib.hid (below_dr HB3.out HD5.out (by omega))
  have HCO5 := Lib.hid (HCO3.out.grown HD5.out.1 (fun q e => by injection e with e; left; omega))
  have HR5 := Lib.hid HD5.out.2
  have y50 : w5.cell? ⟨y, 0, none⟩ = some (.slice A0 ts.length c0) := cell_of_row _ _ _ _ _ _ HY5.out
  have y51 : w5.cell? ⟨y, 1, none⟩ = some (.slice A1 os.length c1) := cell_of_row _ _ _ _ _ _ HY5.out
  have hyl5 : y < w5.heap.size := hlt_of HY5.out
  clear hr5 hR5 hg5 hbk y1 HD4 HD5
  have tok1 : True := trivial
  go_upto_region 4 with (fail)
  go_region_held_law (fun w' => w'.cell? ⟨y, 0, none⟩ = some (.slice A0 ts.length c0) ∧ w'.cell? ⟨y, 1, none⟩ = some (.slice A1 os.length c1)) (go_keep)
    (first | (go_at_call 38; have _t := tok1; go_must (refine (pick_any (w.heap.size + 1) 30002 _ w5.drew (by omega) (HR5.out.drewN 1)).mono ?_); rintro e w6 ⟨r, hr6, hR6, hg6, -, rfl⟩; have hT6 : DrawT w5.drew w6 (w.heap.size + 1) 30003 := ⟨hg6, hR6⟩; have HB6 := Lib.hid (below_dr HB5.out.drew hT6 (by omega)); have HX6 := Lib.hid ((hT6.1.block w.heap.size (by have := hlt_of HX5.out; exact this) (fun e => by injection e with e; omega)).trans HX5.out); have HCO6 := Lib.hid (HCO5.out.drew.grown hT6.1 (fun q e => by injection e with e; left; omega)); have y0 : w6.cell? ⟨y, 0, none⟩ = some (.slice A0 ts.length c0) := cell_of_row _ _ _ _ _ _ ((hT6.1.block y hyl5 (fun e => by injection e with e; omega)).trans HY5.out); have y1 : w6.cell? ⟨y, 1, none⟩ = some (.slice A1 os.length c1) := cell_of_row _ _ _ _ _ _ ((hT6.1.block y hyl5 (fun e => by injection e with e; omega)).trans HY5.out); have e0 : w6.cell? ⟨w.heap.size, 0, none⟩ = some (.slice none 0 0) := cell_of_row _ _ _ _ _ _ HX6.out; have e1 : w6.cell? ⟨w.heap.size, 1, none⟩ = some (.slice none 0 0) := cell_of_row _ _ _ _ _ _ HX6.out; have f0 : w6.frozen? ⟨w.heap.size, 0, none⟩ = false := frozen_of_row _ _ _ _ _ HX6.out; have f1 : w6.frozen? ⟨w.heap.size, 1, none⟩ = false := frozen_of_row _ _ _ _ _ HX6.out; have hyl6 : y < w6.heap.size := World.block_lt_of_cell? _ _ y0; clear tok1 _t hT6 hr6 hR6 hg6))
  all_goals
    go_wp2_with fail
    have HF := Lib.hid ((((HCO6.out.low (g := w.heap.size) (by omega) 0 (.slice A0 ts.length c0)).low (g := w.heap.size) (by omega) 1 (.slice A1 os.length c1)).base_le (base' := w.heap.size + 1) (by omega)).other (q := w.heap.size) (.inr (by omega)))
    refine bodyPost_ret (v := .tuple #[.agg #[.slice A0 ts.length c0, .slice A1 os.length c1], .int .i64 _, .int .i64 r]) (by simp [results, Try.results16, go_sem, e0, e1, f0, f1]; rfl) rfl ⟨_, _, _, _, ts, os, _, r, HF.out, HDB.out, (HB6.out.setCell (Nat.le_refl _) _).setCell (Nat.le_refl _) _, rfl⟩

end Go.Proofs.Ytgbkjfhmbchiiaa

namespace Go.Proofs.Ytgbkjfhmbchiiaa
set_option linter.unusedVariables false
set_option linter.unusedSimpArgs false
open Go.RowKit

theorem snoc_ind {α : Type} {motive : List α → Prop} (l : List α) (nil : motive []) (snoc : ∀ (l : List α) (a : α), motive l → motive (l ++ [a])) : motive l := by
  have h : ∀ r : List α, motive r.reverse := by
    intro r
    induction r with
    | nil => exact nil
    | cons a r ih => rw [List.reverse_cons]; exact snoc _ _ ih
  have := h l.reverse
  rwa [List.reverse_reverse] at this

structure Rec where
  kind : Int
  txn : Int
  us : List Upd
  deriving DecidableEq

def txB (t : Int) : Bool := inR t 0 11
theorem txB_iff (t : Int) : txB t = true ↔ 0 ≤ t ∧ t ≤ 11 := inR_iff _ _ _
/-- the last record of a transaction -/
def lastRc (rs : List Rec) (t : Int) : Option Rec := rs.foldl (fun o r => if r.txn = t then some r else o) none
theorem lastRc_nil (t : Int) : lastRc [] t = none := rfl
theorem lastRc_snoc (rs : List Rec) (r : Rec) (t : Int) : lastRc (rs ++ [r]) t = if r.txn = t then some r else lastRc rs t := by
  unfold lastRc; rw [List.foldl_append]; rfl
theorem lastRc_mem {rs : List Rec} {t : Int} {r : Rec} (h : lastRc rs t = some r) : r ∈ rs ∧ r.txn = t := by
  induction rs using snoc_ind with
  | nil => cases h
  | snoc rs x ih =>
    rw [lastRc_snoc] at h
    by_cases hx : x.txn = t
    · rw [if_pos hx] at h; injection h with h; subst h; exact ⟨by simp, hx⟩
    · rw [if_neg hx] at h; have := ih h; exact ⟨by simp [this.1], this.2⟩
theorem lastRc_none {rs : List Rec} {t : Int} (h : lastRc rs t = none) : ∀ r ∈ rs, r.txn ≠ t := by
  induction rs using snoc_ind with
  | nil => intro r hr; cases hr
  | snoc rs x ih =>
    rw [lastRc_snoc] at h
    by_cases hx : x.txn = t
    · rw [if_pos hx] at h; cases h
    · rw [if_neg hx] at h
      intro r hr
      rcases List.mem_append.1 hr with hr | hr
      · exact ih h r hr
      · rw [List.mem_singleton] at hr; subst hr; exact hx
def kindO (o : Option Rec) : Int := match o with | some r => r.kind | none => 0
def askK (rs : List Rec) (t : Int) : Int := kindO (lastRc rs t)
/-- the updates of the first record that votes for a transaction -/
def prepU (rs : List Rec) (t : Int) : List Upd := match rs.find? (fun r => decide (r.txn = t) && decide (r.kind = 1)) with | some r => r.us | none => []

structure St where
  refs : List Int
  locks : List Int
def st0 : St := ⟨[-1, -1, -1, -1], [-1, -1, -1, -1]⟩
def lockFit (locks : List Int) (us : List Upd) : Bool := us.all fun u => decide (getR locks u.ref = -1)
def lockSet (locks : List Int) (t : Int) (us : List Upd) : List Int := us.foldl (fun l u => l.set u.ref.toNat t) locks
def freeL (locks : List Int) (t : Int) : List Int := locks.map fun n => if n = t then -1 else n
/-- whether a record may follow on others -/
def stepB (rs : List Rec) (s : St) (r : Rec) : Bool :=
  txB r.txn &&
  if r.kind = 1 then decide (askK rs r.txn = 0) && updsB r.us && fitsR s.refs r.us && lockFit s.locks r.us
  else if r.kind = 2 then decide (askK rs r.txn = 1) && decide (r.us = [])
  else if r.kind = 3 then (decide (askK rs r.txn = 0) || decide (askK rs r.txn = 1)) && decide (r.us = [])
  else false
/-- the state behind it -/
def stepS (rs : List Rec) (s : St) (r : Rec) : St :=
  if r.kind = 1 then ⟨s.refs, lockSet s.locks r.txn r.us⟩
  else if r.kind = 2 then ⟨setR s.refs (prepU rs r.txn), freeL s.locks r.txn⟩
  else ⟨s.refs, freeL s.locks r.txn⟩
def runS : List Rec → St → List Rec → St × Bool
  | _, s, [] => (s, true)
  | d, s, r :: l => if stepB d s r = true then runS (d ++ [r]) (stepS d s r) l else (s, false)
def recov (rs : List Rec) : St × Bool := runS [] st0 rs
def shardB (rs : List Rec) : Bool := (recov rs).2 && decide (rs.length ≤ 30)

/-- what ShardAsk answers -/
def askV (rs : List Rec) (t : Int) : Int := if shardB rs = true ∧ txB t = true then askK rs t else -1
theorem askV_no {rs : List Rec} {t : Int} (h : shardB rs = false ∨ txB t = false) : askV rs t = -1 := by
  unfold askV; rw [if_neg]; rintro ⟨h1, h2⟩; rcases h with h | h <;> simp_all
theorem askV_yes {rs : List Rec} {t : Int} (h1 : shardB rs = true) (h2 : txB t = true) : askV rs t = askK rs t := by unfold askV; rw [if_pos ⟨h1, h2⟩]

theorem runS_snoc (l : List Rec) (r : Rec) : ∀ (d : List Rec) (s : St), runS d s (l ++ [r]) =
    if (runS d s l).2 = true then (if stepB (d ++ l) (runS d s l).1 r = true then (stepS (d ++ l) (runS d s l).1 r, true) else ((runS d s l).1, false)) else runS d s l := by
  induction l with
  | nil => intro d s; simp [runS]
  | cons x l ih =>
    intro d s
    rw [List.cons_append]
    by_cases hx : stepB d s x = true
    · simp only [runS, if_pos hx]
      rw [ih, List.append_assoc, List.singleton_append]
    · simp only [runS, if_neg hx]
      simp
theorem recov_snoc (l : List Rec) (r : Rec) : recov (l ++ [r]) = if (recov l).2 = true then (if stepB l (recov l).1 r = true then (stepS l (recov l).1 r, true) else ((recov l).1, false)) else recov l := by
  have := runS_snoc l r [] st0
  rw [List.nil_append] at this
  exact this
/-- records that may follow on one another -/
inductive Hist : List Rec → St → Prop
  | nil : Hist [] st0
  | snoc {rs : List Rec} {s : St} {r : Rec} : Hist rs s → stepB rs s r = true → Hist (rs ++ [r]) (stepS rs s r)
theorem Hist.eq {rs : List Rec} {s : St} (h : Hist rs s) : recov rs = (s, true) := by
  induction h with
  | nil => rfl
  | snoc h1 h2 ih => rw [recov_snoc, ih]; simp [h2]
theorem hist_of {rs : List Rec} (h : (recov rs).2 = true) : Hist rs (recov rs).1 := by
  induction rs using snoc_ind with
  | nil => exact Hist.nil
  | snoc rs r ih =>
    rw [recov_snoc] at h ⊢
    by_cases h1 : (recov rs).2 = true
    · rw [if_pos h1] at h ⊢
      by_cases h2 : stepB rs (recov rs).1 r = true
      · rw [if_pos h2]; exact (ih h1).snoc h2
      · rw [if_neg h2] at h; cases h
    · rw [if_neg h1] at h; exact absurd h h1
theorem recov_take {rs : List Rec} (h : (recov rs).2 = true) (k : Nat) : (recov (rs.take k)).2 = true := by
  induction rs using snoc_ind with
  | nil => simpa using h
  | snoc rs r ih =>
    have h1 : (recov rs).2 = true := by
      rw [recov_snoc] at h
      by_cases h1 : (recov rs).2 = true
      · exact h1
      · rw [if_neg h1] at h; exact absurd h h1
    by_cases hk : k ≤ rs.length
    · rw [List.take_append_of_le_length hk]; exact ih h1
    · rw [List.take_of_length_le (by simp; omega)]; exact h

theorem stepB_iff (rs : List Rec) (s : St) (r : Rec) : stepB rs s r = true ↔ txB r.txn = true ∧
    ((r.kind = 1 ∧ askK rs r.txn = 0 ∧ updsB r.us = true ∧ fitsR s.refs r.us = true ∧ lockFit s.locks r.us = true) ∨
     (r.kind = 2 ∧ askK rs r.txn = 1 ∧ r.us = []) ∨ (r.kind = 3 ∧ (askK rs r.txn = 0 ∨ askK rs r.txn = 1) ∧ r.us = [])) := by
  unfold stepB
  rw [Bool.and_eq_true]
  refine and_congr_right fun _ => ?_
  by_cases h1 : r.kind = 1
  · rw [if_pos h1]; simp [h1, and_assoc]
  · rw [if_neg h1]
    by_cases h2 : r.kind = 2
    · rw [if_pos h2]; simp [h2]
    · rw [if_neg h2]
      by_cases h3 : r.kind = 3
      · rw [if_pos h3]; simp [h3]
      · rw [if_neg h3]; simp [h1, h2, h3]

theorem lockSet_len (us : List Upd) (t : Int) : ∀ xs : List Int, (lockSet xs t us).length = xs.length := by
  unfold lockSet
  induction us with
  | nil => intro xs; rfl
  | cons u us ih => intro xs; rw [List.foldl_cons, ih, List.length_set]
theorem getR_lockSet {us : List Upd} {t : Int} : ∀ {lo : Int} {xs : List Int} {r : Int}, Asc lo us → 0 ≤ lo → xs.length = 4 → 0 ≤ r → getR (lockSet xs t us) r = match look us r with | some _ => t | none => getR xs r := by
  induction us with
  | nil => intro lo xs r _ _ _ _; rfl
  | cons v us ih =>
    intro lo xs r h h0 hl hr
    obtain ⟨h1, h2, h3⟩ := h
    have hv := ((uokB_iff v).1 h1).1
    have e : lockSet xs t (v :: us) = lockSet (xs.set v.ref.toNat t) t us := rfl
    rw [e, ih h3 (by omega) (by rw [List.length_set]; exact hl) hr, getR_set _ hr hv.1 (by omega)]
    by_cases hrv : v.ref = r
    · rw [look_none h3 (by omega), if_pos hrv]
      unfold look; rw [List.find?_cons_of_pos (by simp [hrv])]
    · rw [if_neg hrv]
      have : look (v :: us) r = look us r := by unfold look; rw [List.find?_cons_of_neg (by simp [hrv])]
      rw [this]
theorem getR_freeL {xs : List Int} {t r : Int} (hl : xs.length = 4) (h0 : 0 ≤ r) (h3 : r ≤ 3) : getR (freeL xs t) r = if getR xs r = t then -1 else getR xs r := by
  unfold getR freeL
  rw [List.getD_eq_getElem?_getD, List.getD_eq_getElem?_getD, List.getElem?_map, List.getElem?_eq_getElem (by omega)]
  rfl
theorem freeL_len (xs : List Int) (t : Int) : (freeL xs t).length = xs.length := by unfold freeL; rw [List.length_map]

/-- what holds behind records that may follow on one another -/
structure Inv (rs : List Rec) (s : St) : Prop where
  refs : refsB s.refs = true
  llen : s.locks.length = 4
  rec_ : ∀ r ∈ rs, txB r.txn = true ∧ (r.kind = 1 ∧ updsB r.us = true ∨ (r.kind = 2 ∨ r.kind = 3) ∧ r.us = [])
  prep : ∀ t r, lastRc rs t = some r → r.kind = 1 → prepU rs t = r.us ∧ fitsR s.refs r.us = true
  lock : ∀ x : Int, 0 ≤ x → x ≤ 3 → (getR s.locks x = -1 ∨ txB (getR s.locks x) = true) ∧ ∀ t : Int, 0 ≤ t → (getR s.locks x = t ↔ ∃ r, lastRc rs t = some r ∧ r.kind = 1 ∧ (look r.us x).isSome = true)

theorem prepU_snoc_ne {rs : List Rec} {r : Rec} {t : Int} (h : r.txn ≠ t ∨ r.kind ≠ 1) : prepU (rs ++ [r]) t = prepU rs t := by
  unfold prepU
  rw [List.find?_append]
  have : List.find? (fun r => decide (r.txn = t) && decide (r.kind = 1)) [r] = none := by
    rw [List.find?_cons_of_neg]
    · rfl
    · rcases h with h | h <;> simp [h]
  rw [this, Option.or_none]
theorem prepU_snoc_new {rs : List Rec} {r : Rec} (h : lastRc rs r.txn = none) (h1 : r.kind = 1) : prepU (rs ++ [r]) r.txn = r.us := by
  unfold prepU
  rw [List.find?_append]
  have h0 : List.find? (fun x => decide (x.txn = r.txn) && decide (x.kind = 1)) rs = none := by
    rw [List.find?_eq_none]
    intro x hx
    have := lastRc_none h x hx
    simp [this]
  rw [h0, Option.none_or, List.find?_cons_of_pos (by simp [h1])]

theorem look_ref {us : List Upd} {r : Int} (h : (look us r).isSome = true) : ∃ u ∈ us, u.ref = r := by
  obtain ⟨u, hu⟩ := Option.isSome_iff_exists.1 h
  exact ⟨u, look_some hu⟩
theorem fits_other {xs : List Int} {us vs : List Upd} (hl : xs.length = 4) (hu : Asc 0 us) (hv : Asc 0 vs) (h : ∀ u ∈ us, ∀ v ∈ vs, u.ref ≠ v.ref) (hf : fitsR xs vs = true) : fitsR (setR xs us) vs = true := by
  rw [fits_apart hl hu hv h]; exact hf

/-- what locks are behind a decision -/
theorem inv_free {rs : List Rec} {s : St} {r : Rec} (I : Inv rs s) (htx : txB r.txn = true) {x : Int} (h0 : 0 ≤ x) (h3 : x ≤ 3) (hk : r.kind = 2 ∨ r.kind = 3) :
    (getR (freeL s.locks r.txn) x = -1 ∨ txB (getR (freeL s.locks r.txn) x) = true) ∧ ∀ t : Int, 0 ≤ t → (getR (freeL s.locks r.txn) x = t ↔ ∃ q, lastRc (rs ++ [r]) t = some q ∧ q.kind = 1 ∧ (look q.us x).isSome = true) := by
  have hL := I.lock x h0 h3
  have htx' := (txB_iff _).1 htx
  rw [getR_freeL I.llen h0 h3]
  by_cases e : getR s.locks x = r.txn
  · rw [if_pos e]
    refine ⟨.inl rfl, fun t ht => ⟨fun h => by omega, ?_⟩⟩
    rintro ⟨q, hq, hqk, hs⟩
    exfalso
    rw [lastRc_snoc] at hq
    by_cases et : r.txn = t
    · rw [if_pos et] at hq; injection hq with hq; subst hq; omega
    · rw [if_neg et] at hq
      have := (hL.2 t ht).2 ⟨q, hq, hqk, hs⟩
      exact et (e.symm.trans this)
  · rw [if_neg e]
    refine ⟨hL.1, fun t ht => ?_⟩
    rw [lastRc_snoc]
    by_cases et : r.txn = t
    · rw [if_pos et]
      constructor
      · intro h; exact absurd (h.trans et.symm) e
      · rintro ⟨q, hq, hqk, _⟩; injection hq with hq; subst hq; omega
    · rw [if_neg et]; exact hL.2 t ht

theorem Hist.inv {rs : List Rec} {s : St} (h : Hist rs s) : Inv rs s := by
  induction h with
  | nil =>
    refine ⟨by decide, rfl, (fun r hr => by cases hr), (fun t r h => by cases h), fun x h0 h3 => ⟨.inl ?_, fun t ht => ?_⟩⟩
    · have hx : x = 0 ∨ x = 1 ∨ x = 2 ∨ x = 3 := by omega
      rcases hx with rfl | rfl | rfl | rfl <;> rfl
    · have hx : x = 0 ∨ x = 1 ∨ x = 2 ∨ x = 3 := by omega
      have hg : getR st0.locks x = -1 := by rcases hx with rfl | rfl | rfl | rfl <;> rfl
      rw [hg]
      exact ⟨fun h => by omega, fun ⟨r, hr, _⟩ => by cases hr⟩
  | @snoc rs s r h1 h2 I =>
    obtain ⟨htx, hcase⟩ := (stepB_iff rs s r).1 h2
    have htx' := (txB_iff _).1 htx
    have hrl := ((refsB_iff s.refs).1 I.refs).1
    rcases hcase with ⟨hk, hask, hupd, hfit, hlf⟩ | ⟨hk, hask, hus⟩ | ⟨hk, hask, hus⟩
    · -- a vote
      have hst : stepS rs s r = ⟨s.refs, lockSet s.locks r.txn r.us⟩ := by unfold stepS; rw [if_pos hk]
      have hA := (updsB_asc hupd).1
      have hnone : lastRc rs r.txn = none := by
        rcases hl : lastRc rs r.txn with _ | q
        · rfl
        · exfalso
          have hq := lastRc_mem hl
          have := I.rec_ q hq.1
          unfold askK at hask; rw [hl] at hask
          have : q.kind = 0 := hask
          omega
      rw [hst]
      refine ⟨I.refs, by rw [lockSet_len]; exact I.llen, fun x hx => ?_, fun t q hq hqk => ?_, fun x h0 h3 => ?_⟩
      · rcases List.mem_append.1 hx with hx | hx
        · exact I.rec_ x hx
        · rw [List.mem_singleton] at hx; subst hx; exact ⟨htx, .inl ⟨hk, hupd⟩⟩
      · rw [lastRc_snoc] at hq
        by_cases ht : r.txn = t
        · rw [if_pos ht] at hq; injection hq with hq; subst hq; subst ht
          exact ⟨prepU_snoc_new hnone hk, hfit⟩
        · rw [if_neg ht] at hq
          rw [prepU_snoc_ne (.inl ht)]
          exact I.prep t q hq hqk
      · have hgl := getR_lockSet (t := r.txn) hA (Int.le_refl 0) I.llen h0
        have hL := I.lock x h0 h3
        rcases hlk : look r.us x with _ | u
        · rw [hlk] at hgl
          simp only at hgl
          refine ⟨by rw [hgl]; exact hL.1, fun t ht => ?_⟩
          rw [hgl, hL.2 t ht]
          by_cases e : r.txn = t
          · subst e
            rw [lastRc_snoc, if_pos rfl]
            constructor
            · rintro ⟨q, hq, _⟩; rw [hnone] at hq; cases hq
            · rintro ⟨q, hq, _, hs⟩; injection hq with hq; subst hq; rw [hlk] at hs; cases hs
          · rw [lastRc_snoc, if_neg e]
        · rw [hlk] at hgl
          simp only at hgl
          have hum := look_some hlk
          refine ⟨.inr (by rw [hgl]; exact htx), fun t ht => ?_⟩
          rw [hgl]
          by_cases e : r.txn = t
          · subst e
            rw [lastRc_snoc, if_pos rfl]
            exact ⟨fun _ => ⟨r, rfl, hk, by rw [hlk]; rfl⟩, fun _ => rfl⟩
          · rw [lastRc_snoc, if_neg e]
            refine ⟨fun h => absurd h e, fun hq => ?_⟩
            exfalso
            have h4 := (hL.2 t ht).2 hq
            have h5 := List.all_eq_true.1 hlf u hum.1
            rw [hum.2] at h5
            simp only [decide_eq_true_eq] at h5
            omega
    · -- a commit
      have hk1 : ¬ r.kind = 1 := by omega
      have hst : stepS rs s r = ⟨setR s.refs (prepU rs r.txn), freeL s.locks r.txn⟩ := by unfold stepS; rw [if_neg hk1, if_pos hk]
      obtain ⟨q, hq, hqk⟩ : ∃ q, lastRc rs r.txn = some q ∧ q.kind = 1 := by
        rcases hl : lastRc rs r.txn with _ | q
        · unfold askK at hask; rw [hl] at hask; exact absurd hask (by decide)
        · unfold askK at hask; rw [hl] at hask; exact ⟨q, rfl, hask⟩
      have hP := I.prep _ q hq hqk
      have hqu : updsB q.us = true := by
        rcases (I.rec_ q (lastRc_mem hq).1).2 with h | h
        · exact h.2
        · omega
      have hA := (updsB_asc hqu).1
      rw [hst, hP.1]
      refine ⟨refsB_setR I.refs hA, by rw [freeL_len]; exact I.llen, fun x hx => ?_, fun t p hp hpk => ?_, fun x h0 h3 => ?_⟩
      · rcases List.mem_append.1 hx with hx | hx
        · exact I.rec_ x hx
        · rw [List.mem_singleton] at hx; subst hx; exact ⟨htx, .inr ⟨.inl hk, hus⟩⟩
      · rw [lastRc_snoc] at hp
        by_cases ht : r.txn = t
        · rw [if_pos ht] at hp; injection hp with hp; subst hp; omega
        · rw [if_neg ht] at hp
          rw [prepU_snoc_ne (.inl ht)]
          have hPp := I.prep t p hp hpk
          have hpu : updsB p.us = true := by
            rcases (I.rec_ p (lastRc_mem hp).1).2 with h | h
            · exact h.2
            · omega
          have hAp := (updsB_asc hpu).1
          refine ⟨hPp.1, fits_other hrl hA hAp (fun u hu v hv e => ?_) hPp.2⟩
          have hur := ((uokB_iff u).1 (hA.mem u hu).1).1
          have htt : 0 ≤ t := by
            have := (txB_iff _).1 (I.rec_ p (lastRc_mem hp).1).1
            rw [(lastRc_mem hp).2] at this; exact this.1
          have h1 := ((I.lock u.ref hur.1 hur.2).2 r.txn htx'.1).2 ⟨q, hq, hqk, by rw [look_mem hA hu]; rfl⟩
          have h2 := ((I.lock u.ref hur.1 hur.2).2 t htt).2 ⟨p, hp, hpk, by rw [e, look_mem hAp hv]; rfl⟩
          exact ht (h1.symm.trans h2)
      · exact inv_free I htx h0 h3 (.inl hk)
    · -- an abort
      have hk1 : ¬ r.kind = 1 := by omega
      have hk2 : ¬ r.kind = 2 := by omega
      have hst : stepS rs s r = ⟨s.refs, freeL s.locks r.txn⟩ := by unfold stepS; rw [if_neg hk1, if_neg hk2]
      rw [hst]
      refine ⟨I.refs, by rw [freeL_len]; exact I.llen, fun x hx => ?_, fun t p hp hpk => ?_, fun x h0 h3 => ?_⟩
      · rcases List.mem_append.1 hx with hx | hx
        · exact I.rec_ x hx
        · rw [List.mem_singleton] at hx; subst hx; exact ⟨htx, .inr ⟨.inr hk, hus⟩⟩
      · rw [lastRc_snoc] at hp
        by_cases ht : r.txn = t
        · rw [if_pos ht] at hp; injection hp with hp; subst hp; omega
        · rw [if_neg ht] at hp
          rw [prepU_snoc_ne (.inl ht)]
          exact I.prep t p hp hpk
      · exact inv_free I htx h0 h3 (.inr hk)

end Go.Proofs.Ytgbkjfhmbchiiaa

namespace Go.Proofs.Ytgbkjfhmbchiiaa
set_option linter.unusedVariables false
set_option linter.unusedSimpArgs false
open Go.RowKit

/-- flat elements in blocks from lo on -/
def FlH {α : Type} (f : α → List Value) (w : World) (lo : Nat) (A : Option Addr) (n : Nat) (xs : List α) : Prop := Fl f w lo w.heap.size A n xs
section
variable {α : Type} {f : α → List Value} {w w' : World} {lo lo' C n : Nat} {A : Option Addr} {xs : List α}
theorem FlH.below (h : FlH f w lo A n xs) (hb : Below C w w') (hC : w.heap.size ≤ C) (hs : w.heap.size ≤ w'.heap.size) : FlH f w' lo A n xs := (Fl.below h hb hC).more (Nat.le_refl _) hs
theorem FlH.bel (h : FlH f w lo A n xs) (hb : Below w.heap.size w w') : FlH f w' lo A n xs := h.below hb (Nat.le_refl _) hb.size
theorem FlH.drewN (h : FlH f w lo A n xs) (k : Nat) : FlH f (w.drewN k) lo A n xs := h
theorem FlH.alloc (h : FlH f w lo A n xs) (o : Obj) : FlH f (w.alloc o) lo A n xs := (Fl.alloc h (Nat.le_refl _) o).more (Nat.le_refl _) (by simp)
theorem FlH.grown (h : FlH f w lo A n xs) {row : Option Nat} (hg : w.grownBy w' row) (hr : ∀ g, row = some g → g < lo) : FlH f w' lo A n xs := (Fl.grown h hg (Nat.le_refl _) fun g e => .inl (hr g e)).more (Nat.le_refl _) hg.size
theorem FlH.low (h : FlH f w lo A n xs) (hl : lo' ≤ lo) : FlH f w lo' A n xs := Fl.more h hl (Nat.le_refl _)
theorem FlH.nil (f : α → List Value) (w : World) (lo : Nat) (A : Option Addr) : FlH f w lo A 0 [] := Fl.nil _ _ _ _ _
end

/-- a record, with the row of its updates -/
structure RecC where
  kind : Int
  txn : Int
  A : Option Addr
  n : Nat
  c : Nat
  us : List Upd
def RecC.ab (r : RecC) : Rec := ⟨r.kind, r.txn, r.us⟩
/-- a record's cells -/
def cr (r : RecC) : List Value := [.int .i64 r.kind, .int .i64 r.txn, .slice r.A r.n r.c]
theorem cr_len (r : RecC) : (cr r).length = 3 := rfl
def rv (r : RecC) : Value := .agg #[.int .i64 r.kind, .int .i64 r.txn, .slice r.A r.n r.c]
/-- its updates lie in memory -/
def RecIn (w : World) (lo : Nat) (r : RecC) : Prop := FlH cu w lo r.A r.n r.us ∧ r.n ≤ r.c ∧ r.c ≤ 9223372036854775807
theorem RecIn.bd {w : World} {lo : Nat} {r : RecC} (h : RecIn w lo r) : r.n ≤ 9223372036854775807 := Nat.le_trans h.2.1 h.2.2
/-- records in memory -/
def Recs (w : World) (lo : Nat) (A : Option Addr) (n : Nat) (rs : List RecC) : Prop := FlH cr w lo A n rs ∧ ∀ r ∈ rs, RecIn w lo r
def abs (rs : List RecC) : List Rec := rs.map RecC.ab
theorem abs_len (rs : List RecC) : (abs rs).length = rs.length := List.length_map _
theorem abs_take (rs : List RecC) (k : Nat) : abs (rs.take k) = (abs rs).take k := List.map_take
section
variable {w w' : World} {lo lo' C n : Nat} {A : Option Addr} {rs : List RecC} {r : RecC}
theorem RecIn.bel (h : RecIn w lo r) (hb : Below w.heap.size w w') : RecIn w' lo r := ⟨h.1.bel hb, h.2⟩
theorem RecIn.drewN (h : RecIn w lo r) (k : Nat) : RecIn (w.drewN k) lo r := h
theorem RecIn.alloc (h : RecIn w lo r) (o : Obj) : RecIn (w.alloc o) lo r := ⟨h.1.alloc o, h.2⟩
theorem RecIn.grown (h : RecIn w lo r) {row : Option Nat} (hg : w.grownBy w' row) (hr : ∀ g, row = some g → g < lo) : RecIn w' lo r := ⟨h.1.grown hg hr, h.2⟩
theorem RecIn.low (h : RecIn w lo r) (hl : lo' ≤ lo) : RecIn w lo' r := ⟨h.1.low hl, h.2⟩
theorem Recs.nil (w : World) (lo : Nat) (A : Option Addr) : Recs w lo A 0 [] := ⟨FlH.nil _ _ _ _, fun r hr => by cases hr⟩
theorem Recs.bel (h : Recs w lo A n rs) (hb : Below w.heap.size w w') : Recs w' lo A n rs := ⟨h.1.bel hb, fun r hr => (h.2 r hr).bel hb⟩
theorem Recs.drewN (h : Recs w lo A n rs) (k : Nat) : Recs (w.drewN k) lo A n rs := h
theorem Recs.alloc (h : Recs w lo A n rs) (o : Obj) : Recs (w.alloc o) lo A n rs := ⟨h.1.alloc o, fun r hr => (h.2 r hr).alloc o⟩
theorem Recs.grown (h : Recs w lo A n rs) {row : Option Nat} (hg : w.grownBy w' row) (hr : ∀ g, row = some g → g < lo) : Recs w' lo A n rs := ⟨h.1.grown hg hr, fun r hq => (h.2 r hq).grown hg hr⟩
theorem Recs.low (h : Recs w lo A n rs) (hl : lo' ≤ lo) : Recs w lo' A n rs := ⟨h.1.low hl, fun r hr => (h.2 r hr).low hl⟩
theorem Fl.take {α : Type} {f : α → List Value} {hi : Nat} {xs : List α} (h : Fl f w lo hi A n xs) {k : Nat} (hk : k ≤ n) : Fl f w lo hi A k (xs.take k) := by
  refine ⟨by rw [List.length_take, h.1]; omega, fun hne => ?_⟩
  have e : xs.flatMap f = (xs.take k).flatMap f ++ (xs.drop k).flatMap f := by rw [← List.flatMap_append, List.take_append_drop]
  obtain ⟨b, o, h1, h2, h3, hc⟩ := h.2 (by rw [e]; intro h; exact hne (List.append_eq_nil_iff.1 h).1)
  refine ⟨b, o, h1, h2, h3, fun j u hu => hc j u ?_⟩
  rw [e, List.getElem?_append_left (List.getElem?_eq_some_iff.1 hu).1]; exact hu
theorem Recs.take (h : Recs w lo A n rs) {k : Nat} (hk : k ≤ n) : Recs w lo A k (rs.take k) := ⟨Fl.take h.1 hk, fun r hr => h.2 r (List.mem_of_mem_take hr)⟩
theorem Recs.at_ (h : Recs w lo A n rs) {k : Nat} (hk : k < n) :
    ∃ (b o : Nat) (hl : k < rs.length), A = some ⟨b, o, none⟩ ∧ lo ≤ b ∧ b < w.heap.size ∧ w.cell? ⟨b, o + k * 3, none⟩ = some (.int .i64 rs[k].kind) ∧ w.cell? ⟨b, o + k * 3 + 1, none⟩ = some (.int .i64 rs[k].txn) ∧
      w.cell? ⟨b, o + k * 3 + 2, none⟩ = some (.slice rs[k].A rs[k].n rs[k].c) ∧ RecIn w lo rs[k] := by
  obtain ⟨b, o, hl, rfl, g1, g2, hc⟩ := Fl.at_ h.1 cr_len (by omega) hk
  exact ⟨b, o, hl, rfl, g1, g2, hc 0 _ rfl, hc 1 _ rfl, hc 2 _ rfl, h.2 _ (List.getElem_mem hl)⟩
end

end Go.Proofs.Ytgbkjfhmbchiiaa

namespace Go.Proofs.Ytgbkjfhmbchiiaa
set_option linter.unusedVariables false
set_option linter.unusedSimpArgs false
open Go.RowKit

theorem askK_snoc (rs : List Rec) (r : Rec) (t : Int) : askK (rs ++ [r]) t = if r.txn = t then r.kind else askK rs t := by
  unfold askK; rw [lastRc_snoc]; by_cases h : r.txn = t
  · rw [if_pos h, if_pos h]; rfl
  · rw [if_neg h, if_neg h]
theorem abs_take_succ {rs : List RecC} {k : Nat} (h : k < rs.length) : abs (rs.take (k + 1)) = abs (rs.take k) ++ [rs[k].ab] := by
  rw [List.take_succ_eq_append_getElem h]; unfold abs; rw [List.map_append]; rfl

theorem prepU_snoc (rs : List Rec) (r : Rec) (t : Int) (h : ∀ x ∈ rs, ¬ (x.txn = t ∧ x.kind = 1)) (l : List Rec) : prepU (rs ++ r :: l) t = if r.txn = t ∧ r.kind = 1 then r.us else prepU (rs ++ [r] ++ l) t := by
  by_cases hr : r.txn = t ∧ r.kind = 1
  · rw [if_pos hr]
    unfold prepU
    rw [List.find?_append]
    have h0 : List.find? (fun x => decide (x.txn = t) && decide (x.kind = 1)) rs = none := by
      rw [List.find?_eq_none]; intro x hx; simpa using h x hx
    rw [h0, Option.none_or, List.find?_cons_of_pos (by simp [hr])]
  · rw [if_neg hr, List.append_assoc, List.singleton_append]
theorem prepU_no {rs : List Rec} {t : Int} (h : ∀ x ∈ rs, ¬ (x.txn = t ∧ x.kind = 1)) : prepU rs t = [] := by
  unfold prepU
  have h0 : List.find? (fun x => decide (x.txn = t) && decide (x.kind = 1)) rs = none := by
    rw [List.find?_eq_none]; intro x hx; simpa using h x hx
  rw [h0]

/-- updates in memory, handed back -/
def UpdRet (us : List Upd) (lo : Nat) (w : World) (e : Ending) (w' : World) : Prop :=
  ∃ A n c, e = .returned (.slice A n c) ∧ n ≤ c ∧ c ≤ 9223372036854775807 ∧ FlH cu w' lo A n us ∧ Below w.heap.size w w'

end Go.Proofs.Ytgbkjfhmbchiiaa
