/-
  The walk of ShardRecover of the reference. No condition.
-/
import Derived.Test.YtgnhanbdfohjaaaRecI
import Derived.Deep.RegionHeldLaw
namespace Go.Proofs.Ytgnhanbdfohjaaa
set_option linter.unusedVariables false
set_option linter.unusedSimpArgs false
open Go.RowKit

theorem own_nil_heap {w : World} {base g size : Nat} {e : TypeId} (h : w.heap[g]? = some (.cells #[] e (0, 0))) (hb : base ≤ g) : w.ownsRow base e size (.slice (some ⟨g, 0, none⟩) 0 0) 0 [] :=
  ⟨by simp, .inr ⟨g, 0, #[], rfl, hb, h, Nat.le_refl _, Nat.zero_le _, by simp, by simp⟩⟩
set_option linter.unusedVariables false in
set_option maxRecDepth 100000 in
set_option maxHeartbeats 400000 in
theorem specRecover_any (A : Option Addr) (n c : Nat) (rs : List RecC) (w : World) (lo : Nat) (hn : n ≤ c) (hc : c ≤ 9223372036854775807) (hlo : lo ≤ w.heap.size) (h : Recs w lo A n rs) :
    Calls Try.prog 19 #[.agg #[.slice A n c]] w fun e w' => StOut (recov (abs rs)).1 (shardB (abs rs)) w.heap.size w e w' := by
  have HR := Lib.hid h
  have hnew := Lib.hid (heap_alloc_new (w.alloc (.cells #[.slice A n c] 25)) (.cells #[.slice none 0 0, .slice none 0 0] 30))
  clear h
  go_enter Try.func19, Try.ntmps19
  go_wp2_with fail
  refine (l21Recover_any A n c rs _ lo hn hc (by simp; omega) ((HR.out.alloc _).alloc _)).mono ?_
  rintro e w2 ⟨A1, c1, A2, c2, hS, hb2, rfl⟩
  have hsz : ((w.alloc (.cells #[.slice A n c] 25)).alloc (.cells #[.slice none 0 0, .slice none 0 0] 30)).heap.size = w.heap.size + 1 + 1 := by simp
  have hsz0 : (w.alloc (.cells #[.slice A n c] 25)).heap.size = w.heap.size + 1 := by simp
  rw [hsz] at hb2
  have hnew' := hnew.out
  rw [hsz0] at hnew'
  have HB2 : Hid (Below w.heap.size w w2) := (((Below.refl _ _).alloc (Nat.le_refl _) _).alloc (by simp) _).trans (hb2.mono (by omega))
  have hx2 : w2.heap[w.heap.size + 1]? = some (.cells #[.slice none 0 0, .slice none 0 0] 30 (0, 0)) := (hb2.block _ (by omega)).trans hnew'
  obtain ⟨r0, r1, f0, f1⟩ := ret_agg hx2
  have HX2 := Lib.hid hx2
  have hl2 : w.heap.size + 1 < w2.heap.size := heap_lt hx2
  have HS := Lib.hid (hS.alloc (.cells #[.slice A1 4 c1, .slice A2 4 c2] 30))
  have hnew3 := heap_alloc_new w2 (.cells #[.slice A1 4 c1, .slice A2 4 c2] 30)
  obtain ⟨s0, s1, g0, g1⟩ := ret_agg hnew3
  have HN3 := Lib.hid hnew3
  have hl24 : w.heap.size ≤ w2.heap.size := by omega
  clear hb2 hnew' hx2 hS hsz hsz0 hnew3
  go_upto_if 13 with (fail)
  obtain ⟨w3, hw3⟩ : ∃ w3, w3 = w2.alloc (.cells #[.slice A1 4 c1, .slice A2 4 c2] 30) := ⟨_, rfl⟩
  have HB3 : Hid (Below w.heap.size w w3) := by rw [hw3]; exact Lib.hid (HB2.out.alloc hl24 _)
  have hx3 : w3.heap[w.heap.size + 1]? = some (.cells #[.slice none 0 0, .slice none 0 0] 30 (0, 0)) := by rw [hw3]; exact (Below.heap_alloc _ _ _ hl2).trans HX2.out
  have HS3 : Hid (StIn w3 lo A1 c1 A2 c2 (recov (abs rs)).1) := by rw [hw3]; exact HS
  have s0' : w3.cell? ⟨w2.heap.size, 0, none⟩ = some (.slice A1 4 c1) := by rw [hw3]; exact s0
  have s1' : w3.cell? ⟨w2.heap.size, 1, none⟩ = some (.slice A2 4 c2) := by rw [hw3]; exact s1
  have h3l : w2.heap.size < w3.heap.size := by rw [hw3]; simp
  rw [← hw3]
  obtain ⟨r0', r1', f0', f1'⟩ := ret_agg hx3
  have HX3 := Lib.hid hx3
  have hn3 : w.heap.size + 1 < w3.heap.size := by omega
  have hne1 : ¬ (w2.heap.size = w.heap.size + 1) := by omega
  have hne2 : ¬ (w.heap.size + 1 = w2.heap.size) := by omega
  clear HB2 hx3 HS s0 s1 g0 g1 HN3 HX2 r0 r1 f0 f1 hw3 hnew
  rcases hv : shardB (abs rs) with _ | _
  · have hv' : Hid (shardB (abs rs) = false) := hv
    go_wp2_with fail
    rw [hv'.out]
    exact bodyPost_ret (v := .tuple #[.agg #[.slice none 0 0, .slice none 0 0], .bool false]) (by simp [results, Try.results19, go_sem, r0', r1']) rfl ⟨none, 0, 0, none, 0, 0, [], [], FlH.nil _ _ _ _, FlH.nil _ _ _ _, (fun h => absurd h (by simp)), (fun _ => ⟨rfl, rfl, rfl, rfl⟩), (HB3.out.setCell (p := ⟨w.heap.size + 1, 0, none⟩) (by show w.heap.size ≤ w.heap.size + 1; omega) _).setCell (p := ⟨w.heap.size + 1, 1, none⟩) (by show w.heap.size ≤ w.heap.size + 1; omega) _, rfl⟩
  · have HV := Lib.hid hv
    clear hv
    have HLIT : Hid ((w3.drew.alloc (.cells #[] 3)).ownsRow w3.heap.size 3 1 (.slice (some ⟨w3.heap.size, 0, none⟩) 0 0) 0 []) := Lib.hid (own_nil_lit w3.drew 3 1)
    have HR1 : Hid (FlH ci (w3.drew.alloc (.cells #[] 3)) lo A1 4 (recov (abs rs)).1.refs) := Lib.hid ((HS3.out.refs.drewN 1).alloc _)
    have HE0 : Hid (((w3.alloc (.cells #[] 3)).alloc (.cells #[] 3)).drew.heap[w3.heap.size]? = some (.cells #[] 3 (0, 0))) := Lib.hid ((Below.heap_alloc (w3.alloc (.cells #[] 3)) _ _ (by simp)).trans (heap_alloc_new w3 _))
    have HE1 : Hid (((w3.alloc (.cells #[] 3)).alloc (.cells #[] 3)).drew.heap[w3.heap.size + 1]? = some (.cells #[] 3 (0, 0))) := Lib.hid (show ((w3.alloc (.cells #[] 3)).alloc (.cells #[] 3)).heap[w3.heap.size + 1]? = _ by simpa using heap_alloc_new (w3.alloc (.cells #[] 3)) (.cells #[] 3))
    have HR2 : Hid (FlH ci ((w3.alloc (.cells #[] 3)).alloc (.cells #[] 3)).drew lo A1 4 (recov (abs rs)).1.refs) := Lib.hid (((HS3.out.refs.alloc _).alloc _).drewN 1)
    have tok1 : True := trivial
    go_wp2_with fail
    go_region_held_law (fun w' => w'.cell? ⟨w2.heap.size, 0, none⟩ = some (.slice A1 4 c1) ∧ w'.cell? ⟨w2.heap.size, 1, none⟩ = some (.slice A2 4 c2)) (go_keep)
      (first
        | (have _t := tok1; refine step_app_at Try.elInt HLIT.out HR1.out.2 (by rw [flat_len ci 1 ci_len, HR1.out.1]) (by rw [flat_ci]; simp [Value.oneCell']) (by unfold maxLen; omega) (by omega) (by first | (simp; done) | (simp; omega)) rfl rfl rfl rfl ?_; intro v4 w4 hown4 hg4 hat4; rw [Nat.zero_add, List.nil_append] at hown4; obtain ⟨A4, c4, rfl, hc4, hcm4, hF4⟩ := own_fl ci_len (by omega) hown4; have hF4' : FlH ci w4 w3.heap.size A4 4 (recov (abs rs)).1.refs := hF4; have HF4 := Lib.hid hF4'; have hb4 : Below w3.heap.size w3 w4 := (((Below.refl w3.heap.size w3).drew).alloc (Nat.le_refl _) (.cells #[] 3)).grown hg4 (by first | (simp; done) | (simp; omega)) (fun q hq => by have := (HLIT.out.lt q hq).1; exact this); have HB4 := Lib.hid (HB3.out.trans (hb4.mono (by omega))); have HS4 : Hid (StIn w4 lo A1 c1 A2 c2 (recov (abs rs)).1) := Lib.hid (HS3.out.bel hb4); have s40 : w4.cell? ⟨w2.heap.size, 0, none⟩ = some (.slice A1 4 c1) := (hb4.cell h3l).trans s0'; have s41 : w4.cell? ⟨w2.heap.size, 1, none⟩ = some (.slice A2 4 c2) := (hb4.cell h3l).trans s1'; have HX4 := Lib.hid ((hb4.block _ hn3).trans HX3.out); have hn4 : w3.heap.size ≤ w4.heap.size := hb4.size; have HLIT2 := Lib.hid (own_nil_lit w4 3 1); have HL2 := Lib.hid (HS4.out.locks.alloc (.cells #[] 3)); have tok2 : True := trivial; clear tok1 hown4 hg4 hat4 hF4 hF4' hb4)
        | (have _t := tok2; refine step_app_at Try.elInt HLIT2.out HL2.out.2 (by rw [flat_len ci 1 ci_len, HS4.out.locks.1]) (by rw [flat_ci]; simp [Value.oneCell']) (by unfold maxLen; omega) (by omega) (by first | (simp; done) | (simp; omega) | omega) rfl rfl rfl rfl ?_; intro v5 w5 hown5 hg5 hat5; rw [Nat.zero_add, List.nil_append] at hown5; obtain ⟨A5, c5, rfl, hc5, hcm5, hF5⟩ := own_fl ci_len (by omega) hown5; have HF5 : Hid (FlH ci w5 w3.heap.size A5 4 (recov (abs rs)).1.locks) := Lib.hid (hF5.low (by omega)); have hb5 : Below w3.heap.size w4 w5 := ((Below.refl w3.heap.size w4).alloc hn4 (.cells #[] 3)).grown hg5 (by first | (simp; omega) | omega) (fun q hq => by have := (HLIT2.out.lt q hq).1; omega); have HB5 := Lib.hid (HB4.out.trans (hb5.mono (by omega))); have HF45 : Hid (FlH ci w5 w3.heap.size A4 4 (recov (abs rs)).1.refs) := Lib.hid (HF4.out.bel (((Below.refl w4.heap.size w4).alloc (Nat.le_refl _) (.cells #[] 3)).grown hg5 (by simp) (fun q hq => (HLIT2.out.lt q hq).1))); have s50 : w5.cell? ⟨w2.heap.size, 0, none⟩ = some (.slice A1 4 c1) := (hb5.cell h3l).trans s40; have s51 : w5.cell? ⟨w2.heap.size, 1, none⟩ = some (.slice A2 4 c2) := (hb5.cell h3l).trans s41; have hx5 := (hb5.block _ hn3).trans HX4.out; obtain ⟨r50, r51, f50, f51⟩ := ret_agg hx5; clear tok2 hown5 hg5 hat5 hF5 hb5 hx5)
        | (have _t := tok1; refine step_app_at Try.elInt (own_nil_heap (size := 1) HE0.out (base := w3.heap.size) (by omega)) HR2.out.2 (by rw [flat_len ci 1 ci_len, HR1.out.1]) (by rw [flat_ci]; simp [Value.oneCell']) (by unfold maxLen; omega) (by omega) (by first | (simp; done) | (simp; omega)) rfl rfl rfl rfl ?_; intro v4 w4 hown4 hg4 hat4; rw [Nat.zero_add, List.nil_append] at hown4; obtain ⟨A4, c4, rfl, hc4, hcm4, hF4⟩ := own_fl ci_len (by omega) hown4; have hF4' : FlH ci w4 w3.heap.size A4 4 (recov (abs rs)).1.refs := hF4; have HF4 := Lib.hid hF4'; have hb4 : Below w3.heap.size w3 w4 := ((((Below.refl w3.heap.size w3).alloc (Nat.le_refl _) (.cells #[] 3)).alloc (by first | (simp; done) | (simp; omega)) (.cells #[] 3)).drew).grown hg4 (by first | (simp; done) | (simp; omega)) (fun q hq => by have := ((own_nil_heap (size := 1) HE0.out (base := w3.heap.size) (by omega)).lt q hq).1; exact this); have HB4 := Lib.hid (HB3.out.trans (hb4.mono (by omega))); have HS4 : Hid (StIn w4 lo A1 c1 A2 c2 (recov (abs rs)).1) := Lib.hid (HS3.out.bel hb4); have s40 : w4.cell? ⟨w2.heap.size, 0, none⟩ = some (.slice A1 4 c1) := (hb4.cell h3l).trans s0'; have s41 : w4.cell? ⟨w2.heap.size, 1, none⟩ = some (.slice A2 4 c2) := (hb4.cell h3l).trans s1'; have HX4 := Lib.hid ((hb4.block _ hn3).trans HX3.out); have hn4 : w3.heap.size ≤ w4.heap.size := hb4.size; have HE4 : Hid (w4.heap[(w3.heap.size + 1)]? = some (.cells #[] 3 (0, 0))) := Lib.hid ((hg4.block (w3.heap.size + 1) (by first | (simp; done) | (simp; omega)) (fun e => by have e' : (w3.heap.size + 1) = w3.heap.size := Option.some.inj e; omega)).trans HE1.out); have HN4 : Hid (∀ b o s, A4 = some ⟨b, o, s⟩ → b ≠ (w3.heap.size + 1)) := Lib.hid (fun b o s e hbb => by subst e; rcases hat4 with h | h <;> (have h' := Option.some.inj h; simp at h'; omega)); have tok3 : True := trivial; clear tok1 hown4 hg4 hat4 hF4 hF4' hb4)
        | (have _t := tok3; refine step_app_at Try.elInt (own_nil_heap (size := 1) HE4.out (base := w3.heap.size) (by omega)) HS4.out.locks.2 (by rw [flat_len ci 1 ci_len, HS4.out.locks.1]) (by rw [flat_ci]; simp [Value.oneCell']) (by unfold maxLen; omega) (by omega) (by first | (simp; done) | (simp; omega) | omega) rfl rfl rfl rfl ?_; intro v5 w5 hown5 hg5 hat5; rw [Nat.zero_add, List.nil_append] at hown5; obtain ⟨A5, c5, rfl, hc5, hcm5, hF5⟩ := own_fl ci_len (by omega) hown5; have HF5 : Hid (FlH ci w5 w3.heap.size A5 4 (recov (abs rs)).1.locks) := Lib.hid (hF5.low (by omega)); have hb5 : Below w3.heap.size w4 w5 := (Below.refl w3.heap.size w4).grown hg5 (by first | (simp; omega) | omega) (fun q hq => by have := ((own_nil_heap (size := 1) HE4.out (base := w3.heap.size) (by omega)).lt q hq).1; omega); have HB5 := Lib.hid (HB4.out.trans (hb5.mono (by omega))); have HF45 : Hid (FlH ci w5 w3.heap.size A4 4 (recov (abs rs)).1.refs) := Lib.hid (HF4.out.grown_ne hg5 (fun _ b o s e hh => by injection hh with hh; exact HN4.out b o s e hh.symm)); have s50 : w5.cell? ⟨w2.heap.size, 0, none⟩ = some (.slice A1 4 c1) := (hb5.cell h3l).trans s40; have s51 : w5.cell? ⟨w2.heap.size, 1, none⟩ = some (.slice A2 4 c2) := (hb5.cell h3l).trans s41; have hx5 := (hb5.block _ hn3).trans HX4.out; obtain ⟨r50, r51, f50, f51⟩ := ret_agg hx5; clear tok3 hown5 hg5 hat5 hF5 hb5 hx5)
        | (have _t := tok1; refine step_app_at Try.elInt (own_nil_heap (size := 1) HE1.out (base := w3.heap.size) (by omega)) HR2.out.2 (by rw [flat_len ci 1 ci_len, HR1.out.1]) (by rw [flat_ci]; simp [Value.oneCell']) (by unfold maxLen; omega) (by omega) (by first | (simp; done) | (simp; omega)) rfl rfl rfl rfl ?_; intro v4 w4 hown4 hg4 hat4; rw [Nat.zero_add, List.nil_append] at hown4; obtain ⟨A4, c4, rfl, hc4, hcm4, hF4⟩ := own_fl ci_len (by omega) hown4; have hF4' : FlH ci w4 w3.heap.size A4 4 (recov (abs rs)).1.refs := hF4; have HF4 := Lib.hid hF4'; have hb4 : Below w3.heap.size w3 w4 := ((((Below.refl w3.heap.size w3).alloc (Nat.le_refl _) (.cells #[] 3)).alloc (by first | (simp; done) | (simp; omega)) (.cells #[] 3)).drew).grown hg4 (by first | (simp; done) | (simp; omega)) (fun q hq => by have := ((own_nil_heap (size := 1) HE1.out (base := w3.heap.size) (by omega)).lt q hq).1; exact this); have HB4 := Lib.hid (HB3.out.trans (hb4.mono (by omega))); have HS4 : Hid (StIn w4 lo A1 c1 A2 c2 (recov (abs rs)).1) := Lib.hid (HS3.out.bel hb4); have s40 : w4.cell? ⟨w2.heap.size, 0, none⟩ = some (.slice A1 4 c1) := (hb4.cell h3l).trans s0'; have s41 : w4.cell? ⟨w2.heap.size, 1, none⟩ = some (.slice A2 4 c2) := (hb4.cell h3l).trans s1'; have HX4 := Lib.hid ((hb4.block _ hn3).trans HX3.out); have hn4 : w3.heap.size ≤ w4.heap.size := hb4.size; have HE4 : Hid (w4.heap[w3.heap.size]? = some (.cells #[] 3 (0, 0))) := Lib.hid ((hg4.block w3.heap.size (by first | (simp; done) | (simp; omega)) (fun e => by have e' : w3.heap.size = (w3.heap.size + 1) := Option.some.inj e; omega)).trans HE0.out); have HN4 : Hid (∀ b o s, A4 = some ⟨b, o, s⟩ → b ≠ w3.heap.size) := Lib.hid (fun b o s e hbb => by subst e; rcases hat4 with h | h <;> (have h' := Option.some.inj h; simp at h'; omega)); have tok4 : True := trivial; clear tok1 hown4 hg4 hat4 hF4 hF4' hb4)
        | (have _t := tok4; refine step_app_at Try.elInt (own_nil_heap (size := 1) HE4.out (base := w3.heap.size) (by omega)) HS4.out.locks.2 (by rw [flat_len ci 1 ci_len, HS4.out.locks.1]) (by rw [flat_ci]; simp [Value.oneCell']) (by unfold maxLen; omega) (by omega) (by first | (simp; done) | (simp; omega) | omega) rfl rfl rfl rfl ?_; intro v5 w5 hown5 hg5 hat5; rw [Nat.zero_add, List.nil_append] at hown5; obtain ⟨A5, c5, rfl, hc5, hcm5, hF5⟩ := own_fl ci_len (by omega) hown5; have HF5 : Hid (FlH ci w5 w3.heap.size A5 4 (recov (abs rs)).1.locks) := Lib.hid (hF5.low (by omega)); have hb5 : Below w3.heap.size w4 w5 := (Below.refl w3.heap.size w4).grown hg5 (by first | (simp; omega) | omega) (fun q hq => by have := ((own_nil_heap (size := 1) HE4.out (base := w3.heap.size) (by omega)).lt q hq).1; omega); have HB5 := Lib.hid (HB4.out.trans (hb5.mono (by omega))); have HF45 : Hid (FlH ci w5 w3.heap.size A4 4 (recov (abs rs)).1.refs) := Lib.hid (HF4.out.grown_ne hg5 (fun _ b o s e hh => by injection hh with hh; exact HN4.out b o s e hh.symm)); have s50 : w5.cell? ⟨w2.heap.size, 0, none⟩ = some (.slice A1 4 c1) := (hb5.cell h3l).trans s40; have s51 : w5.cell? ⟨w2.heap.size, 1, none⟩ = some (.slice A2 4 c2) := (hb5.cell h3l).trans s41; have hx5 := (hb5.block _ hn3).trans HX4.out; obtain ⟨r50, r51, f50, f51⟩ := ret_agg hx5; clear tok4 hown5 hg5 hat5 hF5 hb5 hx5))
    all_goals
      go_wp2_with fail
      rw [HV.out]
      exact bodyPost_ret (v := .tuple #[.agg #[.slice A4 4 c4, .slice A5 4 c5], .bool true]) (by simp [results, Try.results19, go_sem, r50, r51]) rfl ⟨A4, 4, c4, A5, 4, c5, _, _, ((HF45.out.grown (set_grown w5 (w.heap.size + 1) 0 (.slice A4 4 c4)) (fun q hq => by injection hq with hq; omega)).grown (set_grown _ (w.heap.size + 1) 1 (.slice A5 4 c5)) (fun q hq => by injection hq with hq; omega)).low (by omega), ((HF5.out.grown (set_grown w5 (w.heap.size + 1) 0 (.slice A4 4 c4)) (fun q hq => by injection hq with hq; omega)).grown (set_grown _ (w.heap.size + 1) 1 (.slice A5 4 c5)) (fun q hq => by injection hq with hq; omega)).low (by omega), (fun _ => ⟨rfl, rfl, rfl, rfl⟩), (fun h => absurd h (by simp)), (HB5.out.setCell (p := ⟨w.heap.size + 1, 0, none⟩) (by show w.heap.size ≤ w.heap.size + 1; omega) _).setCell (p := ⟨w.heap.size + 1, 1, none⟩) (by show w.heap.size ≤ w.heap.size + 1; omega) _, rfl⟩

end Go.Proofs.Ytgnhanbdfohjaaa
