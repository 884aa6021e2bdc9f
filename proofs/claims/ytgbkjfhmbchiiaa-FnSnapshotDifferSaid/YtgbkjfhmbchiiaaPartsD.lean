/-
  The walk of l92Parts: a short slice of parts in new memory. Condition: the reader's place is small.
-/
import Derived.Test.YtgbkjfhmbchiiaaM11
namespace Go.Proofs.Ytgbkjfhmbchiiaa
set_option linter.unusedVariables false
set_option linter.unusedSimpArgs false
open Go.RowKit

theorem GrowP.mkD {w w' : World} {base m n g0 : Nat} {E : TypeId} {v : Value} {es ds : List D} {us : List Value} (h : Grow w base E m v n es) (hg : w.grownBy w' (some g0)) (hr : g0 < base) (hd : OwnL w' w.heap.size ds us) (hbs : base ≤ w.heap.size) : GrowP w' base E m v n es ds us := by
  obtain ⟨vs, F, h1, h2, h3, h4, h5⟩ := h
  obtain ⟨G, k1, k2, k3⟩ := hd
  refine ⟨vs, F, G, own_kept_row h1 hg hr, D.ownL.keep es F vs (fun g hg' => hg.block g (h4 g hg').2 (fun e => by have := (h4 g hg').1; injection e with e; omega)) h2, k3, List.nodup_append.2 ⟨h3, k1, fun a ha b hb' e => ?_⟩, fun g hg' => ?_, fun g hv hg' => ?_⟩
  · subst e; have := (h4 a ha).2; have := (k2 a hb').1; omega
  · rcases List.mem_append.1 hg' with hg' | hg'
    · exact ⟨(h4 g hg').1, Nat.lt_of_lt_of_le (h4 g hg').2 hg.size⟩
    · exact ⟨Nat.le_trans hbs (k2 g hg').1, (k2 g hg').2⟩
  · rcases List.mem_append.1 hg' with hg' | hg'
    · exact h5 g hv hg'
    · have := (h1.lt g hv).2; have := (k2 g hg').1; omega
/-- n parts with few updates, in memory of their own, behind a reader in block g -/
def PrtS (w wr : World) (g n K : Nat) (v : Value) : Prop := ∃ ps : List PartD, ps.length = n ∧ (∀ p ∈ ps, p.us.length ≤ 4) ∧ Grow wr w.heap.size 49 2 v n (ps.flatMap fPart) ∧ DrawT w wr g K
section
variable {w wr w' : World} {g n K K' : Nat} {v : Value}
theorem PrtS.row (hg0 : g < w.heap.size) (h : PrtS w wr g n K v) (h' : DrawT wr w' g K') : PrtS w w' g n K' v := by
  obtain ⟨ps, h1, h2, h3, h4⟩ := h
  exact ⟨ps, h1, h2, h3.grown h'.1 (fun q e => by injection e with e; omega), h4.tr h'⟩
theorem PrtS.more (h : PrtS w wr g n K v) (hK : K ≤ K') : PrtS w wr g n K' v := by
  obtain ⟨ps, h1, h2, h3, h4⟩ := h
  exact ⟨ps, h1, h2, h3, h4.more hK⟩
theorem PrtS.drw (h : PrtS w wr g n K v) : DrawT w wr g K := h.choose_spec.2.2.2
theorem PrtS.rdr (h : PrtS w wr g n K v) : Rdr wr g K := h.drw.2
theorem PrtS.val (h : PrtS w wr g n K v) : ∃ B d, v = .slice B n d := by
  obtain ⟨ps, h1, h2, ⟨vs, F, h3, -⟩, h4⟩ := h
  obtain ⟨B, d, rfl, -⟩ := Rd.of_own h3
  exact ⟨B, d, rfl⟩
/-- ready for one part more -/
theorem PrtS.ready {q : PartD} {us : List Value} (hg0 : g < w.heap.size) (h : PrtS w wr g n K v) (hd : DrawT wr w' g K') (ho : OwnL w' wr.heap.size (fPart q) us) (hq : q.us.length ≤ 4) :
    ∃ vs, w'.ownsRow w.heap.size 49 2 v n vs ∧ ∀ (w2 : World) (v' : Value) (ob : Obj), w2.ownsRow w.heap.size 49 2 v' (n + 1) (vs ++ us) → (w'.alloc ob).grownBy w2 v.ownBlock → (v'.ownBlock = v.ownBlock ∨ v'.ownBlock = some (w'.alloc ob).heap.size) → PrtS w w2 g (n + 1) K' v' := by
  obtain ⟨ps, h1, h2, h3, h4⟩ := h
  obtain ⟨vs, F, G, hov, hrest⟩ := GrowP.mkD h3 hd.1 hg0 ho h4.1.size
  refine ⟨vs, hov, fun w2 v' ob hown hg hat => ⟨ps ++ [q], by simp [h1], fun p hp => ?_, ?_, ?_⟩⟩
  · rcases List.mem_append.1 hp with hp | hp
    · exact h2 p hp
    · rw [List.mem_singleton] at hp; rw [hp]; exact hq
  · have := GrowP.done (k := 1) ⟨F, G, hov, hrest⟩ hown hg hat
    rw [List.flatMap_append]; simpa using this
  · exact ((h4.tr hd).alloc ob).own hg0 (hov.alloc ob) hg
theorem PrtS.out (h : PrtS w wr g n K v) : ∃ ps : List PartD, ∃ B d, v = .slice B n d ∧ Own wr w.heap.size (dParts ps) (.slice B n d) ∧ ps.length = n ∧ (∀ p ∈ ps, p.us.length ≤ 4) := by
  obtain ⟨B, d, rfl⟩ := h.val
  obtain ⟨ps, h1, h2, h3, h4⟩ := h
  refine ⟨ps, B, d, rfl, ?_, h1, h2⟩
  have := h3.own
  unfold dParts
  rw [h1]; exact this
end
/-- the updates of a part that has been drawn -/
theorem part_upds {w0 w1 : World} {g k K base0 : Nat} {v : Value} (s : Int) (h : UpdS w0 w1 g k K v) (hk : k ≤ 4) (hb : base0 ≤ w0.heap.size) : ∃ (us : List Upd) (B : Option Addr) (d : Nat), v = .slice B k d ∧ us.length ≤ 4 ∧ OwnL w1 base0 (fPart ⟨s, us⟩) [.int .i64 s, .slice B k d] := by
  obtain ⟨us, h1, h2, h3⟩ := h
  obtain ⟨B, d, rfl, -⟩ := Rd.of_own h2
  obtain ⟨F, f1, f2, f3⟩ := own_upds h2
  refine ⟨us, B, d, rfl, by omega, [] ++ (F ++ []), by simpa using f1, fun q hq => ?_, ?_⟩
  · have hq' : q ∈ F := by simpa using hq
    have := f2 q hq'; omega
  · exact D.ownL.cons (D.own.int w1 s) (D.ownL.cons f3 (D.ownL.nil w1))
theorem part_none {w1 : World} {base0 : Nat} (s : Int) : OwnL w1 base0 (fPart ⟨s, []⟩) [.int .i64 s, .slice none 0 0] := by
  refine ⟨[] ++ ([] ++ []), List.nodup_nil, fun _ h => (by cases h), ?_⟩
  refine D.ownL.cons (D.own.int w1 s) (D.ownL.cons ?_ (D.ownL.nil w1))
  show D.own w1 (dUpdates []) [] _
  unfold dUpdates D.own
  exact ⟨none, 0, [], [], rfl, Nat.le_refl _, Nat.zero_le _, rfl, D.ownL.nil w1, .inl ⟨rfl, rfl⟩⟩

set_option maxHeartbeats 3200000 in
set_option maxRecDepth 100000 in
theorem l92Parts_any (g K : Nat) (w : World) (hK : K ≤ 1000000000 - 1000) (h : Rdr w g K) :
    Calls Try.prog 55 #[.pointer (some ⟨g, 0, none⟩)] w fun e w' => ∃ n v, n ≤ 4 ∧ PrtS w w' g n (K + 400) v ∧ e = .returned v := by
  have hgw := h.lt
  have HR := Lib.hid (DrawT.refl h)
  clear h
  have HS0 : Hid (PrtS w (w.alloc (.cells #[] 49)) g 0 K (.slice (some ⟨w.heap.size, 0, none⟩) 0 0)) :=
    ⟨[], rfl, fun _ h => (by cases h), Grow.nil (own_nil_lit w 49 2), HR.out.alloc _⟩
  clear HR
  go_enter Try.func55, Try.ntmps55
  go_wp2_with fail
  go_loopw [3, 4] (fun v i wr => ∃ k j : Nat, k ≤ 3 ∧ j ≤ k ∧ i = .int .i64 k ∧ PrtS w wr g j (K + 81 * k) v) (fun _ i _ => 3 - (intOf i).toNat)
  case atStart => exact ⟨0, 0, Nat.zero_le _, Nat.zero_le _, rfl, HS0.out⟩
  case round =>
    obtain ⟨k, j, hk, hjk, rfl, hS⟩ := hrel
    have HS := Lib.hid hS
    obtain ⟨Bv, dv, rfl⟩ := hS.val
    clear hS HS0
    by_cases hlt : k < 3
    · go_wp2_with fail
      refine (pick_any g (K + 81 * k) 2 _ (by omega) HS.out.rdr).mono ?_
      rintro e w2 ⟨r, -, hR2, hg2, -, rfl⟩
      have HS2 := Lib.hid (HS.out.row hgw ⟨hg2, hR2⟩)
      clear hR2 hg2 HS
      by_cases h0 : r = 0
      · have hd : (r == 0) = true := by simp [h0]
        clear h0
        have hw2s : w.heap.size ≤ w2.heap.size := HS2.out.drw.1.size
        have HLI : Hid (Ints (w2.alloc (.cells #[.int .i64 (-1), .int .i64 0, .int .i64 1, .int .i64 2] 3)) w2.heap.size (w2.heap.size + 1) (some ⟨w2.heap.size, 0, none⟩) 4 [-1, 0, 1, 2]) := Lib.hid ⟨rfl, rd_newn (n := w2.heap.size) rfl [.int .i64 (-1), .int .i64 0, .int .i64 1, .int .i64 2] 3⟩
        go_wp2_with fail
        refine (l92Updates_any g (K + 81 * k + 1) _ 4 4 [-1, 0, 1, 2] _ w2.heap.size (w2.heap.size + 1) (by omega) (by omega) (by omega) (by simp) HLI.out (HS2.out.rdr.alloc _)).mono ?_
        rintro e w3 ⟨m, vu, hm, hU, rfl⟩
        obtain ⟨us, Bu, du, rfl, hul, ho⟩ := part_upds (base0 := w2.heap.size) (k : Int) hU hm (by simp)
        obtain ⟨vs, hov, hre⟩ := PrtS.ready hgw HS2.out (((DrawT.refl HS2.out.rdr).alloc _).tr hU.drw) ho hul
        have HOV := Lib.hid hov
        have HRE := Lib.hid hre
        have hw3s : w.heap.size ≤ w3.heap.size := Nat.le_trans hw2s (Nat.le_trans (by simp) hU.drw.1.size)
        clear hov hre ho hU HS2
        go_wp2_with (at_builtin; go_must (refine wpList_app_at Try.elPart (m := 1) (news := [.int .i64 (k : Int), .slice Bu m du]) (HOV.out.alloc _) (rd_newn (n := w3.heap.size) rfl [.int .i64 (k : Int), .slice Bu m du] 49) rfl (by simp [Value.oneCell']) (by unfold maxLen; omega) (by omega) (by first | (simp; done) | (simp; omega)) rfl rfl rfl rfl ?_); intro v5 w5 hown5 hg5 hat5; go_must (have HS5 := Lib.hid (HRE.out w5 v5 _ hown5 hg5 hat5)); obtain ⟨B5, d5, rfl, -, -, -⟩ := Rd.of_own hown5; clear hown5 hg5 hat5)
        go_round
        case rel => exact ⟨k + 1, j + 1, by omega, by omega, by go_num, HS5.out.more (by omega)⟩
        case measure => simp [intOf]; omega
      · have hd : (r == 0) = false := by simp [h0]
        clear h0
        go_wp2_with fail
        go_round
        case rel => exact ⟨k + 1, j, by omega, by omega, by go_num, HS2.out.more (by omega)⟩
        case measure => simp [intOf]; omega
    · have hk3 : k = 3 := by omega
      subst hk3
      -- at least one part
      have HJ : Hid (∃ n, j ≤ 3 ∧ n = j) := Lib.hid ⟨j, hjk, rfl⟩
      go_upto_if 23 with (fail)
      go_cut [3] (fun v wx => ∃ n : Nat, n ≤ 3 ∧ PrtS w wx g n (K + 81 * 3 + 81) v)
      case first =>
        by_cases hj0 : j = 0
        · subst hj0
          go_wp2_with fail
          refine (pick_any g (K + 81 * 3) 3 _ (by omega) HS.out.rdr).mono ?_
          rintro e w2 ⟨r, -, hR2, hg2, -, rfl⟩
          have HS2 := Lib.hid (HS.out.row hgw ⟨hg2, hR2⟩)
          clear hR2 hg2 HS HJ
          have hw2s : w.heap.size ≤ w2.heap.size := HS2.out.drw.1.size
          have HLI : Hid (Ints (w2.alloc (.cells #[.int .i64 (-1), .int .i64 0, .int .i64 1, .int .i64 2] 3)) w2.heap.size (w2.heap.size + 1) (some ⟨w2.heap.size, 0, none⟩) 4 [-1, 0, 1, 2]) := Lib.hid ⟨rfl, rd_newn (n := w2.heap.size) rfl [.int .i64 (-1), .int .i64 0, .int .i64 1, .int .i64 2] 3⟩
          go_wp2_with fail
          refine (l92Updates_any g (K + 81 * 3 + 1) _ 4 4 [-1, 0, 1, 2] _ w2.heap.size (w2.heap.size + 1) (by omega) (by omega) (by omega) (by simp) HLI.out (HS2.out.rdr.alloc _)).mono ?_
          rintro e w3 ⟨m, vu, hm, hU, rfl⟩
          obtain ⟨us, Bu, du, rfl, hul, ho⟩ := part_upds (base0 := w2.heap.size) r hU hm (by simp)
          obtain ⟨vs, hov, hre⟩ := PrtS.ready hgw HS2.out (((DrawT.refl HS2.out.rdr).alloc _).tr hU.drw) ho hul
          have HOV := Lib.hid hov
          have HRE := Lib.hid hre
          have hw3s : w.heap.size ≤ w3.heap.size := Nat.le_trans hw2s (Nat.le_trans (by simp) hU.drw.1.size)
          clear hov hre ho hU HS2
          go_wp2_with (at_builtin; go_must (refine wpList_app_at Try.elPart (m := 1) (news := [.int .i64 r, .slice Bu m du]) (HOV.out.alloc _) (rd_newn (n := w3.heap.size) rfl [.int .i64 r, .slice Bu m du] 49) rfl (by simp [Value.oneCell']) (by unfold maxLen; omega) (by omega) (by first | (simp; done) | (simp; omega)) rfl rfl rfl rfl ?_); intro v5 w5 hown5 hg5 hat5; go_must (have HS5 : Hid (PrtS w w5 g (1) _ v5) := Lib.hid (HRE.out w5 v5 _ hown5 hg5 hat5)); obtain ⟨B5, d5, rfl⟩ := HS5.out.val; clear hown5 hg5 hat5)
          go_meet
          exact ⟨1, by omega, HS5.out.more (by omega)⟩
        · have hd : ((j : Int) == 0) = false := by simp; omega
          clear hj0 HJ
          go_wp2_with fail
          go_meet
          exact ⟨j, hjk, HS.out.more (by omega)⟩
      case rest =>
        clear HJ HS
        obtain ⟨n, hn, hS⟩ := hcut
        have HS := Lib.hid hS
        obtain ⟨Bv, dv, rfl⟩ := hS.val
        clear hS
        go_wp2_with fail
        refine (pick_any g (K + 81 * 3 + 81) 24 _ (by omega) HS.out.rdr).mono ?_
        rintro e w2 ⟨r, -, hR2, hg2, -, rfl⟩
        have HS2 := Lib.hid (HS.out.row hgw ⟨hg2, hR2⟩)
        clear hR2 hg2 HS
        by_cases h0 : r = 0
        · have hd : (r == 0) = true := by simp [h0]
          clear h0
          go_wp2_with fail
          refine (pick_any g (K + 81 * 3 + 81 + 1) 4 _ (by omega) HS2.out.rdr).mono ?_
          rintro e w3 ⟨r3, -, hR3, hg3, -, rfl⟩
          have hw3s : w.heap.size ≤ w3.heap.size := Nat.le_trans HS2.out.drw.1.size hg3.size
          obtain ⟨vs, hov, hre⟩ := PrtS.ready hgw HS2.out ⟨hg3, hR3⟩ (part_none r3) (by simp)
          have HOV := Lib.hid hov
          have HRE := Lib.hid hre
          clear hov hre hR3 hg3 HS2
          go_wp2_with (at_builtin; go_must (refine wpList_app_at Try.elPart (m := 1) (news := [.int .i64 r3, .slice none 0 0]) (HOV.out.alloc _) (rd_newn (n := w3.heap.size) rfl [.int .i64 r3, .slice none 0 0] 49) rfl (by simp [Value.oneCell']) (by unfold maxLen; omega) (by omega) (by first | (simp; done) | (simp; omega)) rfl rfl rfl rfl ?_); intro v5 w5 hown5 hg5 hat5; go_must (have HS5 : Hid (PrtS w w5 g (n + 1) _ v5) := Lib.hid (HRE.out w5 v5 _ hown5 hg5 hat5)); obtain ⟨B5, d5, rfl⟩ := HS5.out.val; clear hown5 hg5 hat5)
          go_ret
          exact ⟨n + 1, _, by omega, HS5.out.more (by omega), rfl⟩
        · have hd : (r == 0) = false := by simp [h0]
          clear h0
          go_wp2_with fail
          go_ret
          exact ⟨n, _, by omega, HS2.out.more (by omega), rfl⟩

end Go.Proofs.Ytgbkjfhmbchiiaa
