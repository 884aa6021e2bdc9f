/-
  The walks of ShardValid, ShardAsk of the program and of slices.Clone. Condition: no vote meets a locked ref; lengths in reach.
-/
import Derived.Test.YtgnhanbdfohjaaaImplJ
import Derived.WalkSpells
import Derived.Test.YtgnhanbdfohjaaaDrawUpds
namespace Go.Proofs.Ytgnhanbdfohjaaa
set_option linter.unusedVariables false
set_option linter.unusedSimpArgs false
open Go.RowKit
attribute [local go_sem ↓] Go.wp_at_zero Go.wp_at_succ

set_option maxRecDepth 100000 in
set_option maxHeartbeats 800000 in
theorem implValid_any (A : Option Addr) (n c : Nat) (rs : List RecC) (w : World) (lo : Nat) (hn : n ≤ c) (hc : c ≤ 9223372036854775807) (h : Recs w lo A n rs) (hcalm : Calm (abs rs)) :
    Calls Try.prog 14 #[.agg #[.slice A n c]] w fun e w' => e = .returned (.bool (shardB (abs rs))) ∧ Below w.heap.size w w' := by
  have HR := Lib.hid h
  have HC := Lib.hid hcalm
  clear h hcalm
  go_enter Try.func14, Try.ntmps14
  go_wp2_with fail
  refine (read_any A n c rs _ lo hn hc (HR.out.alloc _) HC.out).mono ?_
  rintro e w2 ⟨hb, hb2, -, rfl⟩
  have HB : Hid (Below w.heap.size w w2) := ((Below.refl _ _).alloc (Nat.le_refl _) _).trans (hb2.mono (by simp))
  clear hb2
  go_wp2_with fail
  go_ret
  exact ⟨rfl, HB.out⟩

theorem histMap {w : World} {base hb n : Nat} {done : List RecC} {s : St} (h : HistC w base hb n done s) (hsl : s.refs.length = 4) {t : Int} (ht : txB t = true) :
    ∃ (mb : Nat) (y : Int) (B : Option Addr) (m d : Nat), w.cell? ⟨hb, 5, none⟩ = some (.map (some mb)) ∧ (Instr.lookup 61 (.map (some mb)) (.int .i64 t) false).run Try.prog w = .ok (.agg #[.int .i64 (askK (abs done) t), .int .i64 y, .slice B m d]) w := by
  obtain ⟨lb, mb, hT, hL, hM, -⟩ := h
  have hg := histGet hM ht
  have hc := (hist_cells hT hsl).2.2.1
  have hk : askK (abs done) t = kindO ((lastC done t).map RecC.ab) := by rw [lastC_abs]; rfl
  rcases hq : lastC done t with _ | q
  · rw [hq] at hg hk
    refine ⟨mb, 0, none, 0, 0, hc, ?_⟩
    rw [hk]; exact hg
  · rw [hq] at hg hk
    refine ⟨mb, q.txn, q.A, q.n, q.c, hc, ?_⟩
    rw [hk]; exact hg

theorem field_kind (k y : Int) (B : Option Addr) (m d : Nat) (w : World) : (Instr.field 48 (.agg #[.int .i64 k, .int .i64 y, .slice B m d]) 0).run Try.prog w = .ok (.int .i64 k) w := by kernel_rfl

set_option maxRecDepth 100000 in
set_option maxHeartbeats 800000 in
theorem implAsk_any (A : Option Addr) (n c : Nat) (rs : List RecC) (t : Int) (w : World) (lo : Nat) (hn : n ≤ c) (hc : c ≤ 9223372036854775807) (h : Recs w lo A n rs) (hcalm : Calm (abs rs)) :
    Calls Try.prog 17 #[.agg #[.slice A n c], .int .i64 t] w fun e w' => e = .returned (.int .i64 (askV (abs rs) t)) ∧ Below w.heap.size w w' := by
  have HR := Lib.hid h
  have HC := Lib.hid hcalm
  clear h hcalm
  go_enter Try.func17, Try.ntmps17
  go_wp2_with fail
  refine (read_any A n c rs _ lo hn hc (HR.out.alloc _) HC.out).mono ?_
  rintro e w2 ⟨hb, hb2, hh, rfl⟩
  have HB : Hid (Below w.heap.size w w2) := ((Below.refl _ _).alloc (Nat.le_refl _) _).trans (hb2.mono (by simp))
  have HH := Lib.hid hh
  clear hb2 hh
  rcases hv : shardB (abs rs) with _ | _
  · have E := Lib.hid (askV_no (t := t) (.inl hv))
    go_wp2_with fail
    go_ret
    exact ⟨ret_int E.out.symm, HB.out⟩
  · rcases ht : txB t with _ | _
    · have E := Lib.hid (askV_no (rs := abs rs) (.inr ht))
      go_wp2_with (go_at_call 38; refine (isTxn_any _ _).mono ?_; rintro e w' ⟨rfl, rfl⟩)
      go_ret
      exact ⟨ret_int E.out.symm, HB.out⟩
    · have E := Lib.hid (askV_yes hv ht)
      have hrec : (recov (abs rs)).2 = true := by unfold shardB at hv; simp at hv; exact hv.1
      have hI := (hist_of hrec).inv
      obtain ⟨mb, y, B, m, d, hc5, hlk⟩ := histMap (HH.out hrec) ((refsB_iff _).1 hI.refs).1 ht
      clear hrec hI
      have hfk := field_kind (askK (abs rs) t) y B m d
      go_wp2_with (go_at_call 38; refine (isTxn_any _ _).mono ?_; rintro e w' ⟨rfl, rfl⟩)
      go_ret
      exact ⟨ret_int E.out.symm, HB.out⟩

theorem Try.elRec : ElemT Try.prog 23 48 (.agg #[.int .i64 0, .int .i64 0, .slice none 0 0]) 3 40 := ⟨Try.underlying23, by kernel_rfl, rfl, by decide⟩

set_option maxRecDepth 100000 in
set_option maxHeartbeats 800000 in
theorem cloneInt_any (A : Option Addr) (n c : Nat) (xs : List Int) (w : World) (lo : Nat) (hn : n ≤ 1000000) (h : FlH ci w lo A n xs) :
    Calls Try.prog 37 #[.slice A n c] w fun e w' => ∃ v, w'.ownsRow w.heap.size 3 1 v n (xs.flatMap ci) ∧ Below w.heap.size w w' ∧ e = .returned v := by
  have HX := Lib.hid h
  have hxl := Lib.hid h.1
  have qT : ∀ (w : World) (a : Option Addr) (n c n' c' : Nat), (binOp .eql 28 (.slice a n c) (.slice none n' c')).run Try.prog w = .ok (.bool a.isNone) w := fun w a n c n' c' => Lib.run_eql_slice_nil w _ _ a n c n' c' Try.underlying28
  clear h
  rcases A with _ | ad
  · have hx0 : xs = [] := by
      rcases hxs : xs with _ | ⟨x, l⟩
      · rfl
      · obtain ⟨b, o, e, _⟩ := HX.out.2 (by rw [hxs]; simp [ci])
        cases e
    have hn0 : n = 0 := by rw [← hxl.out, hx0]; rfl
    subst hx0 hn0
    go_enter Try.func37, Try.ntmps37
    go_wp2_with fail
    go_ret
    exact ⟨_, World.ownsRow_nil _ _ _ _, Below.refl _ _, rfl⟩
  · have hown0 := Lib.hid (own_nil_lit w 3 1)
    go_enter Try.func37, Try.ntmps37
    go_wp2_with (at_builtin; go_must (refine wpList_app Try.elInt hown0.out (HX.out.2.alloc (Nat.le_refl _) _) (by rw [flat_len ci 1 ci_len, hxl.out]) (by rw [flat_ci]; simp [Value.oneCell']) (by unfold maxLen; omega) (by omega) (by simp) rfl rfl rfl rfl ?_); intro v2 w2 hown2 hg2)
    rw [Nat.zero_add, List.nil_append] at hown2
    have HO := Lib.hid hown2
    have HB := Lib.hid (below_app ((Below.refl w.heap.size w).alloc (Nat.le_refl _) (.cells #[] 3)) (Nat.le_refl _) (by simp) hown0.out hg2)
    clear hown2 hg2
    go_ret
    exact ⟨v2, HO.out, HB.out, rfl⟩

set_option maxRecDepth 100000 in
set_option maxHeartbeats 800000 in
theorem cloneUpd_any (A : Option Addr) (n c : Nat) (xs : List Upd) (w : World) (lo : Nat) (hn : n ≤ 1000000) (h : FlH cu w lo A n xs) :
    Calls Try.prog 62 #[.slice A n c] w fun e w' => ∃ v, w'.ownsRow w.heap.size 87 3 v n (xs.flatMap cu) ∧ Below w.heap.size w w' ∧ e = .returned v := by
  have HX := Lib.hid h
  have hxl := Lib.hid h.1
  have qT : ∀ (w : World) (a : Option Addr) (n c n' c' : Nat), (binOp .eql 46 (.slice a n c) (.slice none n' c')).run Try.prog w = .ok (.bool a.isNone) w := fun w a n c n' c' => Lib.run_eql_slice_nil w _ _ a n c n' c' Try.underlying46
  clear h
  rcases A with _ | ad
  · have hx0 : xs = [] := by
      rcases hxs : xs with _ | ⟨x, l⟩
      · rfl
      · obtain ⟨b, o, e, _⟩ := HX.out.2 (by rw [hxs]; simp [cu])
        cases e
    have hn0 : n = 0 := by rw [← hxl.out, hx0]; rfl
    subst hx0 hn0
    go_enter Try.func62, Try.ntmps62
    go_wp2_with fail
    go_ret
    exact ⟨_, World.ownsRow_nil _ _ _ _, Below.refl _ _, rfl⟩
  · have hown0 := Lib.hid (own_nil_lit w 87 3)
    go_enter Try.func62, Try.ntmps62
    go_wp2_with (at_builtin; go_must (refine wpList_app Try.elUpd hown0.out (HX.out.2.alloc (Nat.le_refl _) _) (by rw [flat_len cu 3 cu_len, hxl.out]) (by intro u hu; obtain ⟨x, _, hx⟩ := List.mem_flatMap.1 hu; simp [cu] at hx; rcases hx with rfl | rfl | rfl <;> rfl) (by unfold maxLen; omega) (by omega) (by simp) rfl rfl rfl rfl ?_); intro v2 w2 hown2 hg2)
    rw [Nat.zero_add, List.nil_append] at hown2
    have HO := Lib.hid hown2
    have HB := Lib.hid (below_app ((Below.refl w.heap.size w).alloc (Nat.le_refl _) (.cells #[] 87)) (Nat.le_refl _) (by simp) hown0.out hg2)
    clear hown2 hg2
    go_ret
    exact ⟨v2, HO.out, HB.out, rfl⟩

set_option maxRecDepth 100000 in
set_option maxHeartbeats 800000 in
theorem cloneRec_any (A : Option Addr) (n c : Nat) (xs : List RecC) (w : World) (lo : Nat) (hn : n ≤ 1000000) (h : FlH cr w lo A n xs) :
    Calls Try.prog 61 #[.slice A n c] w fun e w' => ∃ v, w'.ownsRow w.heap.size 48 3 v n (xs.flatMap cr) ∧ Below w.heap.size w w' ∧ e = .returned v := by
  have HX := Lib.hid h
  have hxl := Lib.hid h.1
  have qT : ∀ (w : World) (a : Option Addr) (n c n' c' : Nat), (binOp .eql 23 (.slice a n c) (.slice none n' c')).run Try.prog w = .ok (.bool a.isNone) w := fun w a n c n' c' => Lib.run_eql_slice_nil w _ _ a n c n' c' Try.underlying23
  clear h
  rcases A with _ | ad
  · have hx0 : xs = [] := by
      rcases hxs : xs with _ | ⟨x, l⟩
      · rfl
      · obtain ⟨b, o, e, _⟩ := HX.out.2 (by rw [hxs]; simp [cr])
        cases e
    have hn0 : n = 0 := by rw [← hxl.out, hx0]; rfl
    subst hx0 hn0
    go_enter Try.func61, Try.ntmps61
    go_wp2_with fail
    go_ret
    exact ⟨_, World.ownsRow_nil _ _ _ _, Below.refl _ _, rfl⟩
  · have hown0 := Lib.hid (own_nil_lit w 48 3)
    go_enter Try.func61, Try.ntmps61
    go_wp2_with (at_builtin; go_must (refine wpList_app Try.elRec hown0.out (HX.out.2.alloc (Nat.le_refl _) _) (by rw [flat_len cr 3 cr_len, hxl.out]) (by intro u hu; obtain ⟨x, _, hx⟩ := List.mem_flatMap.1 hu; simp [cr] at hx; rcases hx with rfl | rfl | rfl <;> rfl) (by unfold maxLen; omega) (by omega) (by simp) rfl rfl rfl rfl ?_); intro v2 w2 hown2 hg2)
    rw [Nat.zero_add, List.nil_append] at hown2
    have HO := Lib.hid hown2
    have HB := Lib.hid (below_app ((Below.refl w.heap.size w).alloc (Nat.le_refl _) (.cells #[] 48)) (Nat.le_refl _) (by simp) hown0.out hg2)
    clear hown2 hg2
    go_ret
    exact ⟨v2, HO.out, HB.out, rfl⟩

end Go.Proofs.Ytgnhanbdfohjaaa
