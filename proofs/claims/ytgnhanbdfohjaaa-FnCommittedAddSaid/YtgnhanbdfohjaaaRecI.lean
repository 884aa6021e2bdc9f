/-
  The walk of ShardRecover of the program. Condition: no vote meets a locked ref.
-/
import Derived.Test.YtgnhanbdfohjaaaImplK
import Derived.Test.YtgnhanbdfohjaaaRecO
namespace Go.Proofs.Ytgnhanbdfohjaaa
set_option linter.unusedVariables false
set_option linter.unusedSimpArgs false
open Go.RowKit

theorem TabX.fl {w : World} {g base : Nat} {t : TypeId} {xs : List Int} {rest : List Value} (h : TabX w g t xs rest) (hb : base ≤ g) : FlH ci w base (some ⟨g, 0, none⟩) xs.length xs :=
  ⟨rfl, fun _ => ⟨g, 0, rfl, hb, h.lt, fun j u hu => by
    rw [Nat.zero_add, cell_of_row w g j _ _ _ h]
    rw [flat_ci] at hu
    rw [List.getElem?_toArray, List.getElem?_append_left (List.getElem?_eq_some_iff.1 hu).1]; exact hu⟩⟩
theorem TabX.drewN {w : World} {g : Nat} {t : TypeId} {xs : List Int} {rest : List Value} (h : TabX w g t xs rest) (k : Nat) : TabX (w.drewN k) g t xs rest := h
/-- a state handed back, or none -/
def StOut (s : St) (ok : Bool) (base : Nat) (w : World) (e : Ending) (w' : World) : Prop :=
  ∃ A1 k1 c1 A2 k2 c2 x1 x2, FlH ci w' base A1 k1 x1 ∧ FlH ci w' base A2 k2 x2 ∧ (ok = true → x1 = s.refs ∧ x2 = s.locks ∧ k1 = 4 ∧ k2 = 4) ∧ (ok = false → x1 = [] ∧ x2 = [] ∧ k1 = 0 ∧ k2 = 0) ∧ Below w.heap.size w w' ∧ e = .returned (.tuple #[.agg #[.slice A1 k1 c1, .slice A2 k2 c2], .bool ok])

set_option linter.unusedVariables false in
set_option maxRecDepth 100000 in
set_option maxHeartbeats 400000 in
theorem implRecover_any (A : Option Addr) (n c : Nat) (rs : List RecC) (w : World) (lo : Nat) (hn : n ≤ c) (hc : c ≤ 9223372036854775807) (h : Recs w lo A n rs) (hcalm : Calm (abs rs)) :
    Calls Try.prog 16 #[.agg #[.slice A n c]] w fun e w' => StOut (recov (abs rs)).1 (shardB (abs rs)) w.heap.size w e w' := by
  have HR := Lib.hid h
  have HC := Lib.hid hcalm
  have hnew := Lib.hid (heap_alloc_new (w.alloc (.cells #[.slice A n c] 25)) (.cells #[.slice none 0 0, .slice none 0 0] 30))
  clear h hcalm
  go_enter Try.func16, Try.ntmps16
  go_wp2_with fail
  refine (read_any A n c rs _ lo hn hc ((HR.out.alloc _).alloc _) HC.out).mono ?_
  rintro e w2 ⟨hb, hb2, hH, rfl⟩
  have hsz : ((w.alloc (.cells #[.slice A n c] 25)).alloc (.cells #[.slice none 0 0, .slice none 0 0] 30)).heap.size = w.heap.size + 1 + 1 := by simp
  have hsz0 : (w.alloc (.cells #[.slice A n c] 25)).heap.size = w.heap.size + 1 := by simp
  rw [hsz] at hH hb2
  have hnew' := hnew.out
  rw [hsz0] at hnew'
  have HB2 : Hid (Below w.heap.size w w2) := (((Below.refl _ _).alloc (Nat.le_refl _) _).alloc (by simp) _).trans (hb2.mono (by omega))
  have hx2 : w2.heap[w.heap.size + 1]? = some (.cells #[.slice none 0 0, .slice none 0 0] 30 (0, 0)) := (hb2.block _ (by omega)).trans hnew'
  obtain ⟨r0, r1, f0, f1⟩ := ret_agg hx2
  have HX2 := Lib.hid hx2
  have HH := Lib.hid hH
  have hl2 : w.heap.size + 1 < w2.heap.size := heap_lt hx2
  clear hb2 hnew' hx2 hH hsz hsz0
  rcases hv : shardB (abs rs) with _ | _
  · have hv' : Hid (shardB (abs rs) = false) := hv
    go_wp2_with fail
    rw [hv'.out]
    exact bodyPost_ret (v := .tuple #[.agg #[.slice none 0 0, .slice none 0 0], .bool false]) (by simp [results, Try.results16, go_sem, r0, r1]) rfl ⟨none, 0, 0, none, 0, 0, [], [], FlH.nil _ _ _ _, FlH.nil _ _ _ _, (fun h => absurd h (by simp)), (fun _ => ⟨rfl, rfl, rfl, rfl⟩), HB2.out.setCell (p := ⟨w.heap.size + 1, 0, none⟩) (by show w.heap.size ≤ w.heap.size + 1; omega) _ |>.setCell (p := ⟨w.heap.size + 1, 1, none⟩) (by show w.heap.size ≤ w.heap.size + 1; omega) _, rfl⟩
  · have hv2 : (recov (abs rs)).2 = true := by unfold shardB at hv; exact ((Bool.and_eq_true _ _).mp hv).1
    obtain ⟨lb, mb, hT, hL, hM, hb1, hb2, hb3, hn1, hn2, hn3⟩ := HH.out hv2
    have hI := (hist_of hv2).inv
    have hsl : (recov (abs rs)).1.refs.length = 4 := ((refsB_iff _).1 hI.refs).1
    have hll := hI.llen
    obtain ⟨-, k4, k5, kf⟩ := hist_cells hT hsl
    have hhb := hT.lt
    have hlb := hL.lt
    have HT := Lib.hid hT
    have HL := Lib.hid hL
    have HSL := Lib.hid hsl
    have HLL := Lib.hid hll
    have HREF : Hid (FlH ci w2.drew (w.heap.size + 1) (some ⟨hb, 0, none⟩) 4 (recov (abs rs)).1.refs) := by have := (hT.drewN 1).fl hb1; rw [hsl] at this; exact Lib.hid (this.low (by omega))
    clear hT hL hM hI hsl hll HH
    have HV := Lib.hid hv
    clear hv
    have hne1 : ¬ (hb = w.heap.size + 1) := by omega
    have hne2 : ¬ (w.heap.size + 1 = hb) := by omega
    go_wp2_with fail
    go_region_held3 (fun w' => w'.cell? ⟨hb, 4, none⟩ = some (.slice (some ⟨lb, 0, none⟩) 4 4)) (go_keep)
      (first | (go_at_call 37; (refine (cloneInt_any (some ⟨hb, 0, none⟩) 4 4 (recov (abs rs)).1.refs _ (w.heap.size + 1) (by omega) HREF.out).mono ?_); rintro e w3 ⟨v3, hown3, hb3', rfl⟩; have hb3 : Below w2.heap.size w2 w3 := ⟨hb3'.os, hb3'.tape, hb3'.output, hb3'.size, hb3'.block⟩; obtain ⟨A3, c3, rfl, hc3, hcm3, hF3⟩ := own_fl ci_len (by omega) hown3; have HF3 : Hid (FlH ci w3 w2.heap.size A3 4 (recov (abs rs)).1.refs) := Lib.hid hF3; have HB3 : Hid (Below w.heap.size w w3) := HB2.out.trans (hb3.mono (by omega)); have HL3 : Hid (TabX w3 lb 3 (recov (abs rs)).1.locks []) := (hb3.block _ hlb).trans HL.out; have hx3 := (hb3.block _ hl2).trans HX2.out; obtain ⟨r30, r31, f30, f31⟩ := ret_agg hx3; have k34 : w3.cell? ⟨hb, 4, none⟩ = some (.slice (some ⟨lb, 0, none⟩) 4 4) := (hb3.cell hhb).trans k4; clear hb3' hb3 hown3 hF3 hx3))
    go_wp2_with fail
    rw [HV.out]
    have hl4 := HL3.out.fl (base := w.heap.size) (by omega)
    rw [HLL.out] at hl4
    have hg1 := (set_grown w3 (w.heap.size + 1) 0 (.slice A3 4 c3))
    refine bodyPost_ret (v := .tuple #[.agg #[.slice A3 4 c3, .slice (some ⟨lb, 0, none⟩) 4 4], .bool true]) (by simp [results, Try.results16, go_sem, r30, r31]) rfl ⟨A3, 4, c3, some ⟨lb, 0, none⟩, 4, 4, _, _, ?_, ?_, (fun _ => ⟨rfl, rfl, rfl, rfl⟩), (fun h => absurd h (by simp)), (HB3.out.setCell (p := ⟨w.heap.size + 1, 0, none⟩) (by show w.heap.size ≤ w.heap.size + 1; omega) _).setCell (p := ⟨w.heap.size + 1, 1, none⟩) (by show w.heap.size ≤ w.heap.size + 1; omega) _, rfl⟩
    · exact ((HF3.out.grown (set_grown w3 (w.heap.size + 1) 0 (.slice A3 4 c3)) (fun q hq => by injection hq with hq; omega)).grown (set_grown _ (w.heap.size + 1) 1 (.slice (some ⟨lb, 0, none⟩) 4 4)) (fun q hq => by injection hq with hq; omega)).low (by omega)
    · have := ((HL3.out.fl (base := w.heap.size + 2) (by omega)).grown (set_grown w3 (w.heap.size + 1) 0 (.slice A3 4 c3)) (fun q hq => by injection hq with hq; omega)).grown (set_grown _ (w.heap.size + 1) 1 (.slice (some ⟨lb, 0, none⟩) 4 4)) (fun q hq => by injection hq with hq; omega)
      rw [HLL.out] at this
      exact this.low (by omega)

end Go.Proofs.Ytgnhanbdfohjaaa
