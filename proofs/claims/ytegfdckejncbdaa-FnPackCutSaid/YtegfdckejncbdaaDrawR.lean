/-
  The walk of the reference's l91Pack: a drawn pack. Condition: the reader's place is small.
-/
import Derived.Test.YtegfdckejncbdaaMakeR
import Derived.Test.YtegfdckejncbdaaNestM
namespace Go.Proofs.Ytegfdckejncbdaa
set_option linter.unusedVariables false
set_option linter.unusedSimpArgs false
open Go.RowKit

theorem rdL_set {w : World} {lo hi : Nat} {d : D} {u : Value} : ∀ {es : List D} {vs : List Value} (q : Nat), D.rdL w lo hi es vs → D.rd w lo hi d u → D.rdL w lo hi (es.set q d) (vs.set q u)
  | [], vs, q, h, _ => by unfold D.rdL at h; subst h; simp; unfold D.rdL; rfl
  | e :: es, vs, q, h, hd => by
    unfold D.rdL at h
    obtain ⟨v, r, rfl, h1, h2⟩ := h
    rcases q with _ | q
    · rw [List.set_cons_zero, List.set_cons_zero]
      unfold D.rdL
      exact ⟨u, r, rfl, hd, h2⟩
    · rw [List.set_cons_succ, List.set_cons_succ]
      unfold D.rdL
      exact ⟨v, _, rfl, h1, rdL_set q h2 hd⟩

section
variable {w : World} {lo hi m n n' c g o q : Nat} {es : List D} {F : List Nat} {A : Option Addr}
theorem own_at (h : D.own w (.arr m n es) F (.slice A n' c)) (hn : 0 < n) (hm : 0 < m) : ∃ g o, A = some ⟨g, o, none⟩ ∧ g ∈ F ∧ ∀ q, q < n * m → ∃ u, w.cell? ⟨g, o + q, none⟩ = some u ∧ w.frozen? ⟨g, o + q, none⟩ = false := by
  obtain ⟨g, o, rfl, hg⟩ := own_row h hn hm
  refine ⟨g, o, rfl, hg, fun q hq => ?_⟩
  unfold D.own at h
  obtain ⟨A', c', vs, F', e, h2, h3, h4, h5, h6⟩ := h
  injection e with e1 e2 e3
  subst e1
  have hvl := D.ownL.length h5
  rcases h6 with ⟨rfl, rfl⟩ | ⟨g', o', e', rfl, hc⟩
  · simp at hvl; omega
  · injection e' with e'
    injection e' with ea eb ec
    subst ea eb
    exact ⟨_, hc q _ (List.getElem?_eq_getElem (by omega))⟩
/-- one cell of a row of the call's own has been written -/
theorem rd_store {d : D} {u : Value} {p : Nat} (h : D.own w (.arr m n es) F (.slice (some ⟨g, o, none⟩) n' c)) (hF : F.Nodup) (hb : ∀ x ∈ F, lo ≤ x ∧ x < hi) (hq : q < n * m) (hp : p = o + q) (hd : D.rd (w.setCell ⟨g, p, none⟩ u) lo hi d u) :
    D.rd (w.setCell ⟨g, p, none⟩ u) lo hi (.arr m n (es.set q d)) (.slice (some ⟨g, o, none⟩) n' c) := by
  subst hp
  unfold D.own at h
  obtain ⟨A', c', vs, F', e, h2, h3, h4, h5, h6⟩ := h
  injection e with e1 e2 e3
  subst e1 e2 e3
  have hvl := D.ownL.length h5
  rcases h6 with ⟨rfl, rfl⟩ | ⟨g', o', e', rfl, hc⟩
  · simp at hvl; omega
  · injection e' with e'
    injection e' with ea eb ec
    subst ea eb
    have hnd := List.nodup_cons.1 hF
    have h5' : D.ownL (w.setCell ⟨g, o + q, none⟩ u) es F' vs := D.ownL.keep es F' vs (fun x hx => Below.heap_setCell _ _ _ _ (fun e => hnd.1 (by rw [← show x = g from e]; exact hx))) h5
    have h7 := rdL_set q (D.ownL.rd es F' vs (fun x hx => hb x (List.mem_cons_of_mem _ hx)) h5') hd
    have hg := hb g List.mem_cons_self
    unfold D.rd
    refine ⟨_, c, _, rfl, h2, h3, by rw [List.length_set]; exact h4, fun _ => ⟨g, o, rfl, hg.1, hg.2, fun j x hx => ?_⟩, h7⟩
    rw [List.getElem?_set] at hx
    by_cases hj : q = j
    · subst hj
      rw [if_pos rfl, if_pos (by omega)] at hx
      injection hx with hx
      subst hx
      exact World.cell?_setCell_same _ _ _ (hc q _ (List.getElem?_eq_getElem (by omega))).1
    · rw [if_neg hj] at hx
      rw [World.cell?_setCell_other _ _ _ _ (fun e => hj (by injection e with _ e2; omega))]
      exact (hc j x hx).1
end

theorem flat_setE {α : Type} (f : α → List D) (m : Nat) (hf : ∀ x, (f x).length = m) (y : α) (j : Nat) (d : D) (hj : j < m) : ∀ (xs : List α) (k : Nat) (hk : k < xs.length), f y = (f xs[k]).set j d → (xs.flatMap f).set (k * m + j) d = (xs.set k y).flatMap f
  | [], k, hk, _ => by simp at hk
  | x :: xs, k, hk, hy => by
    rcases k with _ | k
    · simp only [List.set_cons_zero, List.flatMap_cons, Nat.zero_mul, Nat.zero_add]
      rw [List.set_append_left _ _ (by rw [hf]; exact hj)]
      congr 1
      exact hy.symm
    · simp only [List.set_cons_succ, List.flatMap_cons]
      rw [List.set_append_right _ _ (by rw [hf, Nat.add_mul]; omega), hf, show (k + 1) * m + j - m = k * m + j from by rw [Nat.add_mul]; omega]
      congr 1
      exact flat_setE f m hf y j d hj xs k (by simpa using hk) (by simpa using hy)

theorem DrawT.belP {w wr w' : World} {g K : Nat} (h : DrawT w wr g K) (hb : Below wr.heap.size wr w') : DrawT w w' g K := ⟨grown_tr h.1 (grown_none hb _), h.2.grown (grown_none hb none) (fun q hq => by cases hq)⟩

/-- what is left behind the draw of a pack -/
def DrawnPs (w w' : World) (g K : Nat) (e : Ending) : Prop :=
  ∃ (ps : List PED) (A : Option Addr) (n c : Nat), D.rd w' w.heap.size w'.heap.size (dPackEntrys ps) (.slice A n c) ∧ n ≤ 17 ∧ D.sz (dPackEntrys ps) ≤ 1048576 ∧ DrawT w w' g K ∧ e = .returned (.slice A n c)
theorem DrawnPs.mk_ {w w1 w2 w' : World} {g K n c gb ob k j : Nat} {ps : List PED} {u : Value} {d : D} (p' : PED) (hg : g < w.heap.size) (hs : w.heap.size ≤ w1.heap.size) (hown : Own w2 w1.heap.size (dPackEntrys ps) (.slice (some ⟨gb, ob, none⟩) n c)) (hgb : w1.heap.size ≤ gb) (hD : DrawT w w2 g K) (hn : n = ps.length) (hn17 : n ≤ 17) (hsm : ∀ p ∈ ps, smallE p) (hk : k < n) (hj : j < 4)
    (hu : D.rd (w2.setCell ⟨gb, ob + k * 4 + j, none⟩ u) w.heap.size (w2.setCell ⟨gb, ob + k * 4 + j, none⟩ u).heap.size d u) (hp : ∀ hk : k < ps.length, fPackEntry p' = (fPackEntry ps[k]).set j d) (hp2 : ∀ hk : k < ps.length, smallE p') (e' : w' = w2.setCell ⟨gb, ob + k * 4 + j, none⟩ u) :
    DrawnPs w w' g K (.returned (.slice (some ⟨gb, ob, none⟩) n c)) := by
  subst e'
  obtain ⟨F, f1, f2, f3⟩ := hown
  subst hn
  have hz : (w2.setCell ⟨gb, ob + k * 4 + j, none⟩ u).heap.size = w2.heap.size := by simp [World.setCell]
  have h1 := rd_store (q := k * 4 + j) f3 f1 (fun x hx => show w.heap.size ≤ x ∧ x < (w2.setCell ⟨gb, ob + k * 4 + j, none⟩ u).heap.size from ⟨Nat.le_trans hs (f2 x hx).1, by rw [hz]; exact (f2 x hx).2⟩) (by omega) (by omega) hu
  rw [flat_setE fPackEntry 4 fPackEntry_len p' j d hj ps k hk (hp hk)] at h1
  refine ⟨ps.set k p', _, _, _, ?_, hn17, small_sz (by rw [List.length_set]; exact hn17) (fun p hp3 => ?_), hD.setCell (Nat.le_trans hs hgb) hg _, rfl⟩
  · unfold dPackEntrys
    rw [List.length_set]; exact h1
  · rcases List.mem_or_eq_of_mem_set hp3 with h | h
    · exact hsm p h
    · rw [h]; exact hp2 hk

set_option maxHeartbeats 3200000 in
set_option maxRecDepth 100000 in
theorem l91Pack_any (g K : Nat) (w : World) (hK : K ≤ 100000) (h : Rdr w g K) :
    Calls Try.prog 29 #[.pointer (some ⟨g, 0, none⟩)] w fun e w' => DrawnPs w w' g (K + 6000) e := by
  have hg0 := h.lt
  have HR0 := Lib.hid h
  clear h
  go_enter Try.func29, Try.ntmps29
  go_wp2_with fail
  refine (l91List_any g K _ hK HR0.out).mono ?_
  rintro e w1 ⟨os, B, n, d, hown1, -, hn17, hs1, hD1, rfl⟩
  have HO1 := Lib.hid hown1.rd
  have HS1 := Lib.hid hs1
  have HD1 := Lib.hid hD1
  have hz1 := hD1.1.size
  clear hown1 hs1 hD1
  go_wp2_with fail
  refine (specPackMake_any os B n d w1 w.heap.size w1.heap.size (Nat.le_refl _) hn17 HS1.out HO1.out).mono ?_
  rintro e w2 ⟨ps, B2, m, d2, ok, hown2, hm, hm17, hsm, hb2, rfl⟩
  have HD2 := Lib.hid (HD1.out.belP hb2)
  have HO2 := Lib.hid hown2
  have HM := Lib.hid hm
  have HSM := Lib.hid hsm
  have hmd : m ≤ d2 ∧ d2 ≤ 9223372036854775807 := by have h9 := hown2.rd.len; omega
  obtain ⟨hmd1, hmd2⟩ := hmd
  have hz2 := hb2.size
  clear HD1 HO1 HS1 hown2 hm hsm hb2
  by_cases h0 : m = 0
  · subst h0
    go_wp2_with fail
    go_ret
    exact ⟨ps, B2, 0, d2, HO2.out.rd.more hz1 (Nat.le_refl _), hm17, small_sz (by rw [← HM.out]; exact hm17) HSM.out, HD2.out.more (by omega), rfl⟩
  · have hm0 : 0 < m := by omega
    have hm1 : (m == 0) = false := by simpa using h0
    have hm2 : ((m : Int) == 0) = false := by simp; omega
    go_wp2_with fail
    refine (pick_any g (K + 5000) m _ (by omega) HD2.out.2).mono ?_
    rintro e w3 ⟨r3, hr3, hR3, hg3, -, rfl⟩
    obtain ⟨k, rfl⟩ := Int.eq_ofNat_of_zero_le hr3.1
    have hk : k < m := by have := hr3.2 (by omega); omega
    have HD3 := Lib.hid (HD2.out.step hg3 hR3)
    have HO3 := Lib.hid (HO2.out.grown hg3 (fun q hq => by injection hq with hq; omega))
    have hz3 : w1.heap.size ≤ w3.heap.size := by have := hg3.size; omega
    clear hr3 hR3 hg3 HD2 HO2 hz2
    go_wp2_with fail
    refine (pick_any g (K + 5000 + 1) 12 _ (by omega) HD3.out.2).mono ?_
    rintro e w4 ⟨r4, -, hR4, hg4, -, rfl⟩
    have HD4 := Lib.hid (HD3.out.step hg4 hR4)
    have HO4 := Lib.hid (HO3.out.grown hg4 (fun q hq => by injection hq with hq; omega))
    have hz4 : w1.heap.size ≤ w4.heap.size := by have := hg4.size; omega
    clear hR4 hg4 HD3 HO3 hz3
    obtain ⟨gb, ob, rfl, hgb⟩ : ∃ gb ob, B2 = some ⟨gb, ob, none⟩ ∧ w1.heap.size ≤ gb := by
      obtain ⟨F, f1, f2, f3⟩ := HO4.out
      unfold dPackEntrys at f3
      rw [← HM.out] at f3
      obtain ⟨gb, ob, h1, h2⟩ := own_row f3 hm0 (by omega)
      exact ⟨gb, ob, h1, (f2 gb h2).1⟩
    have HAT : Hid (∀ W, Own W w1.heap.size (dPackEntrys ps) (.slice (some ⟨gb, ob, none⟩) m d2) → ∀ j, j < 4 → ∃ u, W.cell? ⟨gb, ob + k * 4 + j, none⟩ = some u ∧ W.frozen? ⟨gb, ob + k * 4 + j, none⟩ = false) := by
      intro W hW j hj
      obtain ⟨F, f1, f2, f3⟩ := hW
      unfold dPackEntrys at f3
      rw [← HM.out] at f3
      obtain ⟨g', o', e1, h2, h3⟩ := own_at f3 hm0 (by omega)
      injection e1 with e1
      injection e1 with ea eb ec
      subst ea eb
      have := h3 (k * 4 + j) (by omega)
      rwa [← Nat.add_assoc] at this
    have hki : (k : Int) < m := by omega
    by_cases c0 : r4 = 0
    · subst c0
      go_wp2_with fail
      refine (pick_any g (K + 5000 + 1 + 1) (m + 2) _ (by omega) HD4.out.2).mono ?_
      rintro e w5 ⟨r5, hr5, hR5, hg5, -, rfl⟩
      have hr5b := hr5.2 (by omega)
      have hr5a := hr5.1
      have HD5 := Lib.hid (HD4.out.step hg5 hR5)
      have HO5 := Lib.hid (HO4.out.grown hg5 (fun q hq => by injection hq with hq; omega))
      obtain ⟨u, hu1, hu2⟩ := HAT.out _ HO5.out 2 (by omega)
      clear hr5 hR5 hg5 HD4 HO4
      go_wp2_with fail
      go_ret
      exact DrawnPs.mk_ (j := 2) (d := .int (r5 - 1)) ⟨(ps.getD k ⟨0, [], 0, []⟩).kind, (ps.getD k ⟨0, [], 0, []⟩).links, r5 - 1, (ps.getD k ⟨0, [], 0, []⟩).ops⟩ hg0 hz1 HO5.out hgb (HD5.out.more (by omega)) HM.out hm17 HSM.out hk (by omega) (by unfold D.rd; rfl) (fun h => by simp [h, fPackEntry]) (fun h => by have := HSM.out _ (List.getElem_mem h); simpa [h, smallE] using this) rfl
    · have d0 : (r4 == 0) = false := by simpa using c0
      clear c0
      by_cases c1 : r4 = 1
      · subst c1
        clear d0
        go_wp2_with fail
        refine (l91Text_any g (K + 5000 + 1 + 1) _ (by omega) HD4.out.2).mono ?_
        rintro e w5 ⟨s, hs9, hD5, rfl⟩
        have HD5 := Lib.hid (HD4.out.tr hD5)
        have HO5 := Lib.hid (HO4.out.grown hD5.1 (fun q hq => by injection hq with hq; omega))
        have hz5 : w1.heap.size ≤ w5.heap.size := by have := hD5.1.size; omega
        clear hD5 HD4 HO4
        go_wp2_with fail
        refine (l91Ops_any g (K + 5000 + 1 + 1 + 20) s _ (by omega) hs9 HD5.out.2).mono ?_
        rintro e w6 ⟨kk, v, hkk, ⟨xs, hx1, hx2, hx3, hD6⟩, rfl⟩
        have HD6 := Lib.hid (HD5.out.tr hD6)
        have HO6 := Lib.hid (HO5.out.grown hD6.1 (fun q hq => by injection hq with hq; omega))
        obtain ⟨u, hu1, hu2⟩ := HAT.out _ HO6.out 3 (by omega)
        obtain ⟨G, g1, g2, g3⟩ := row_own hx3 (ownL_ops xs (fun o ho => by have := hx2 o ho; omega))
        subst hx1
        have hgbl : gb < w5.heap.size := by
          have := World.block_lt_of_cell? _ _ (HAT.out _ HO5.out 3 (by omega)).choose_spec.1
          exact this
        have HR6 : Hid (D.rd (w6.setCell ⟨gb, ob + k * 4 + 3, none⟩ v) w.heap.size (w6.setCell ⟨gb, ob + k * 4 + 3, none⟩ v).heap.size (dOps xs) v) := by
          have h1 := D.own.rd (lo := w5.heap.size) (hi := w6.heap.size) _ _ _ (fun x hx => hx3.lt x (g2 x hx)) g3
          exact (h1.setCell (.inl hgbl) v).more (by omega) (by simp [World.setCell])
        have HX := Lib.hid hx2
        obtain ⟨A9, c9, rfl, -, -, -⟩ := Rd.of_own hx3
        clear hD6 HD5 HO5 hx2 hx3 g1 g2 g3
        go_wp2_with fail
        go_ret
        exact DrawnPs.mk_ (j := 3) (d := dOps xs) ⟨(ps.getD k ⟨0, [], 0, []⟩).kind, (ps.getD k ⟨0, [], 0, []⟩).links, (ps.getD k ⟨0, [], 0, []⟩).base, xs⟩ hg0 hz1 HO6.out hgb (HD6.out.more (by omega)) HM.out hm17 HSM.out hk (by omega) HR6.out (fun h => by simp [h, fPackEntry]) (fun h => by have := HSM.out _ (List.getElem_mem h); refine ⟨by simpa [h] using this.1, by show xs.length ≤ 8; omega, HX.out⟩) rfl
      · have d1 : (r4 == 1) = false := by simpa using c1
        clear c1
        by_cases c2 : r4 = 2
        · subst c2
          clear d0 d1
          go_wp2_with fail
          refine (pick_any g (K + 5000 + 1 + 1) 5 _ (by omega) HD4.out.2).mono ?_
          rintro e w5 ⟨r5, -, hR5, hg5, -, rfl⟩
          have HD5 := Lib.hid (HD4.out.step hg5 hR5)
          have HO5 := Lib.hid (HO4.out.grown hg5 (fun q hq => by injection hq with hq; omega))
          obtain ⟨u, hu1, hu2⟩ := HAT.out _ HO5.out 0 (by omega)
          rw [Nat.add_zero] at hu1 hu2
          clear hR5 hg5 HD4 HO4
          go_wp2_with fail
          go_ret
          exact DrawnPs.mk_ (j := 0) (d := .int r5) ⟨r5, (ps.getD k ⟨0, [], 0, []⟩).links, (ps.getD k ⟨0, [], 0, []⟩).base, (ps.getD k ⟨0, [], 0, []⟩).ops⟩ hg0 hz1 HO5.out hgb (HD5.out.more (by omega)) HM.out hm17 HSM.out hk (by omega) (by unfold D.rd; rfl) (fun h => by simp [h, fPackEntry]) (fun h => by have := HSM.out _ (List.getElem_mem h); simpa [h, smallE] using this) rfl
        · have d2' : (r4 == 2) = false := by simpa using c2
          clear c2
          go_wp2_with fail
          go_ret
          exact ⟨ps, _, m, d2, HO4.out.rd.more hz1 (Nat.le_refl _), hm17, small_sz (by rw [← HM.out]; exact hm17) HSM.out, HD4.out.more (by omega), rfl⟩

end Go.Proofs.Ytegfdckejncbdaa
