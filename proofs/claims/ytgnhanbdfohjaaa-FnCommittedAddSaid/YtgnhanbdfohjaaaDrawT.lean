/-
  The walk of l92Shard of the reference: a shard that is drawn record by record. Condition: the reader's place is small.
-/
import Derived.Test.YtgnhanbdfohjaaaDrawS
import Derived.Deep.CutBlock
namespace Go.Proofs.Ytgnhanbdfohjaaa
set_option linter.unusedVariables false
set_option linter.unusedSimpArgs false
open Go.RowKit
attribute [local go_sem ↓] Go.wp_at_zero Go.wp_at_succ

theorem l92UpdatesH_any (g K : Nat) (A : Option Addr) (n c : Nat) (xs : List Int) (w : World) (lo : Nat) (hK : K ≤ 1000000000 - 100) (hn : n ≤ 4) (hgl : g < lo) (hx : FlH ci w lo A n xs) (h : Rdr w g K) :
    Calls Try.prog 54 #[.pointer (some ⟨g, 0, none⟩), .slice A n c] w fun e w' => ∃ k v, k ≤ 4 ∧ UpdS w w' g k (K + 80) v ∧ e = .returned v :=
  l92Updates_any g K A n c xs w lo _ hK hn hgl (Nat.le_refl _) hx h

/-- what holds while a shard is drawn: the block t3 names it, the block t2 of the result is untouched -/
def ShD (w wr : World) (g K t2 t3 : Nat) (A : Option Addr) (n c : Nat) (rs : List RecC) : Prop :=
  wr.heap[t3]? = some (.cells #[.slice A n c] 25 (0, 0)) ∧ RecOwn wr w.heap.size (.slice A n c) n rs ∧ wr.heap[t2]? = some (.cells #[.slice none 0 0] 25 (0, 0)) ∧ w.heap.size ≤ t2 ∧ w.heap.size ≤ t3 ∧ DrawT w wr g K ∧ n ≤ c ∧ c ≤ 9223372036854775807
theorem ShD.grown {w wr w' : World} {g K K' t2 t3 : Nat} {A : Option Addr} {n c : Nat} {rs : List RecC} (h : ShD w wr g K t2 t3 A n c rs) (hg0 : g < w.heap.size) (hg : wr.grownBy w' (some g)) (hR : Rdr w' g K') : ShD w w' g K' t2 t3 A n c rs := by
  obtain ⟨h1, h2, h3, h4, h5, h6, h7⟩ := h
  exact ⟨(hg.block _ (heap_lt h1) (fun e => by injection e with e; omega)).trans h1, h2.grownLow hg (fun q hq => by injection hq with hq; omega), (hg.block _ (heap_lt h3) (fun e => by injection e with e; omega)).trans h3, h4, h5, ⟨grown_tr h6.1 hg, hR⟩, h7⟩
theorem ShD.rdr {w wr : World} {g K t2 t3 : Nat} {A : Option Addr} {n c : Nat} {rs : List RecC} (h : ShD w wr g K t2 t3 A n c rs) : Rdr wr g K := h.2.2.2.2.2.1.2
theorem ShD.bel {w wr w' : World} {g K t2 t3 : Nat} {A : Option Addr} {n c : Nat} {rs : List RecC} (h : ShD w wr g K t2 t3 A n c rs) (hg0 : g < w.heap.size) (hb : Below wr.heap.size wr w') : ShD w w' g K t2 t3 A n c rs :=
  h.grown hg0 (grown_none hb _) (h.rdr.grown (grown_none hb none) (fun q hq => by cases hq))
theorem ShD.more {w wr : World} {g K K' t2 t3 : Nat} {A : Option Addr} {n c : Nat} {rs : List RecC} (h : ShD w wr g K t2 t3 A n c rs) (hK : K ≤ K') : ShD w wr g K' t2 t3 A n c rs := by
  obtain ⟨h1, h2, h3, h4, h5, h6, h7⟩ := h
  exact ⟨h1, h2, h3, h4, h5, h6.more hK, h7⟩
theorem ShD.recs {w wr : World} {g K t2 t3 : Nat} {A : Option Addr} {n c : Nat} {rs : List RecC} (h : ShD w wr g K t2 t3 A n c rs) : Recs wr w.heap.size A n rs := h.2.1.recs'
theorem ShD.size {w wr : World} {g K t2 t3 : Nat} {A : Option Addr} {n c : Nat} {rs : List RecC} (h : ShD w wr g K t2 t3 A n c rs) : w.heap.size ≤ wr.heap.size := h.2.2.2.2.2.1.1.size
theorem grown_fresh {a b : World} {row : Option Nat} {q : Nat} (h : a.grownBy b row) (hq : a.heap.size ≤ q) (j : Nat) (u : Value) : a.grownBy (b.setCell ⟨q, j, none⟩ u) row :=
  ⟨h.os, h.tape, h.output, by simpa [World.setCell] using h.size, fun i hi hne => (Below.heap_setCell _ _ _ i (fun e => by have e' : i = q := e; omega)).trans (h.block i hi hne)⟩
/-- a valid shard that has been drawn so far -/
def ShV (w wr : World) (g K t2 t3 : Nat) : Prop := ∃ A n c rs, shardB (abs rs) = true ∧ ShD w wr g K t2 t3 A n c rs
/-- the same, with a state in the block t6 -/
def ShS (w wr : World) (g K t2 t3 t6 : Nat) (A : Option Addr) (n c : Nat) (rs : List RecC) (A1 : Option Addr) (c1 : Nat) (A2 : Option Addr) (c2 : Nat) (st : St) : Prop :=
  ShD w wr g K t2 t3 A n c rs ∧ wr.heap[t6]? = some (.cells #[.slice A1 4 c1, .slice A2 4 c2] 30 (0, 0)) ∧ w.heap.size ≤ t6 ∧ StIn wr w.heap.size A1 c1 A2 c2 st
theorem ShS.grown {w wr w' : World} {g K K' t2 t3 t6 : Nat} {A : Option Addr} {n c : Nat} {rs : List RecC} {A1 A2 : Option Addr} {c1 c2 : Nat} {st : St} (h : ShS w wr g K t2 t3 t6 A n c rs A1 c1 A2 c2 st) (hg0 : g < w.heap.size) (hg : wr.grownBy w' (some g)) (hR : Rdr w' g K') : ShS w w' g K' t2 t3 t6 A n c rs A1 c1 A2 c2 st :=
  ⟨h.1.grown hg0 hg hR, (hg.block _ (heap_lt h.2.1) (fun e => by injection e with e; have := h.2.2.1; omega)).trans h.2.1, h.2.2.1, h.2.2.2.grown hg (fun q hq => by injection hq with hq; omega)⟩
/-- the same, with the next shard in the block t9 -/
def ShN (w wr : World) (g K t2 t3 t9 : Nat) (A : Option Addr) (n c : Nat) (rs : List RecC) : Prop :=
  ShD w wr g K t2 t3 A n c rs ∧ w.heap.size ≤ t9 ∧ t9 ≠ t2 ∧ t9 ≠ t3 ∧ ∃ A8 n8 c8 rs8, RecOwn wr w.heap.size (.slice A8 n8 c8) n8 rs8 ∧ n8 ≤ c8 ∧ c8 ≤ 9223372036854775807 ∧ wr.heap[t9]? = some (.cells #[.slice A8 n8 c8] 25 (0, 0))

/-- a drawn shard: valid, or with a record more, or without its first one -/
def DrawnL (rs : List Rec) : Prop := shardB rs = true ∨ (∃ rs0 k t, rs = rs0 ++ [⟨k, t, []⟩] ∧ shardB rs0 = true) ∨ (∃ rs0, rs = rs0.drop 1 ∧ shardB rs0 = true)
def DrawnS (w w' : World) (g K : Nat) (e : Ending) : Prop :=
  ∃ A n c rs, DrawnL (abs rs) ∧ Recs w' w.heap.size A n rs ∧ n ≤ c ∧ c ≤ 9223372036854775807 ∧ n ≤ 31 ∧ (∀ r ∈ rs, r.n ≤ 4) ∧ DrawT w w' g K ∧ e = .returned (.agg #[.slice A n c])

set_option linter.unusedVariables false in
set_option maxRecDepth 100000 in
set_option maxHeartbeats 6400000 in
theorem l92Shard_any (g K : Nat) (w : World) (hK : K ≤ 1000000) (h : Rdr w g K) :
    Calls Try.prog 33 #[.pointer (some ⟨g, 0, none⟩)] w fun e w' => DrawnS w w' g (K + 5000) e := by
  have hg0 := h.lt
  have hown0 : ((w.alloc (.cells #[.slice none 0 0] 25)).alloc (.cells #[] 48)).ownsRow (w.heap.size + 1) 48 3 (.slice (some ⟨w.heap.size + 1, 0, none⟩) 0 0) 0 [] := by
    have := own_lit_from (w := w.alloc (.cells #[.slice none 0 0] 25)) (base := w.heap.size + 1) (size := 3) (e := 48) (by simp)
    simpa using this
  have h0 : ShD w (((w.alloc (.cells #[.slice none 0 0] 25)).alloc (.cells #[] 48)).alloc (.cells #[.slice (some ⟨w.heap.size + 1, 0, none⟩) 0 0] 25)) g K w.heap.size (w.heap.size + 1 + 1) (some ⟨w.heap.size + 1, 0, none⟩) 0 0 [] := by
    refine ⟨?_, RecOwn.nil (own_base (hown0.alloc _) (by omega)), ?_, by omega, by omega, (((DrawT.refl h).alloc _).alloc _).alloc _, by omega, by omega⟩
    · simpa using heap_alloc_new ((w.alloc (.cells #[.slice none 0 0] 25)).alloc (.cells #[] 48)) (.cells #[.slice (some ⟨w.heap.size + 1, 0, none⟩) 0 0] 25)
    · exact (Below.heap_alloc _ _ _ (by simp; omega)).trans ((Below.heap_alloc _ _ _ (by simp)).trans (heap_alloc_new w _))
  have H0 := Lib.hid h0
  clear h h0 hown0
  go_enter Try.func33, Try.ntmps33
  go_wp2_with fail
  refine (pick_any g K 16 _ (by omega) H0.out.rdr).mono ?_
  rintro e w1 ⟨r1, hr1, hR1, hg1, -, rfl⟩
  have hr11 := hr1.1
  have hr12 := hr1.2 (by omega)
  have H1 := Lib.hid (H0.out.grown hg0 hg1 hR1)
  clear hr1 hR1 hg1 H0
  go_wp2_with fail
  refine (pick_any g (K + 1) 10 _ (by omega) H1.out.rdr).mono ?_
  rintro e w2 ⟨r2, hr2, hR2, hg2, -, rfl⟩
  have H2 := Lib.hid (H1.out.grown hg0 hg2 hR2)
  clear hr2 hR2 hg2 H1
  go_upto_if 16 with (fail)
  go_cut [4] (fun v wx => ∃ m : Int, v = .int .i64 m ∧ 0 ≤ m ∧ m ≤ 40 ∧ ShV w wx g (K + 2) w.heap.size (w.heap.size + 1 + 1))
  case first =>
    by_cases h0 : r2 = 0
    · have hd : (r2 == 0) = true := by simp [h0]
      clear h0
      go_wp2_with fail
      go_meet
      exact ⟨40, rfl, by omega, by omega, _, _, _, [], shard_nil, H2.out⟩
    · have hd : (r2 == 0) = false := by simp [h0]
      clear h0
      go_wp2_with fail
      go_meet
      exact ⟨r1, rfl, by omega, by omega, _, _, _, [], shard_nil, H2.out⟩
  case rest =>
    clear H2
    obtain ⟨m, rfl, hm0, hm40, hV⟩ := hcut
    have HV := Lib.hid hV
    clear hV
    go_wp2_with fail
    go_loopw [5] (fun i wr => ∃ k : Nat, i = .int .i64 k ∧ (k : Int) ≤ m ∧ ShV w wr g (K + 2 + 100 * k) w.heap.size (w.heap.size + 1 + 1)) (fun i _ => m.toNat - (intOf i).toNat)
    case atStart => exact ⟨0, rfl, by simpa using hm0, HV.out⟩
    case round =>
      obtain ⟨k, rfl, hkm, A, n, c, rs, hsh, hD⟩ := hrel
      clear HV
      have hnc := hD.2.2.2.2.2.2.1
      have hcm := hD.2.2.2.2.2.2.2
      have hss := recs_short hD.recs hsh
      have hn30 := hss.1
      have HS4 := Lib.hid hss.2
      have HSH := Lib.hid hsh
      have HD := Lib.hid hD
      have k30 : wr.cell? ⟨w.heap.size + 1 + 1, 0, none⟩ = some (.slice A n c) := cell_zero hD.1
      have hws := hD.size
      clear hss hsh hD
      by_cases hlt : (k : Int) < m
      · go_wp2_with fail
        refine (l21Recover_any A n c rs _ w.heap.size hnc hcm hws HD.out.recs).mono ?_
        rintro e w3 ⟨A1, c1, A2, c2, hS3, hb3, rfl⟩
        have HS3 : Hid (ShS w (w3.alloc (.cells #[.slice A1 4 c1, .slice A2 4 c2] 30)) g (K + 2 + 100 * k) w.heap.size (w.heap.size + 1 + 1) w3.heap.size A n c rs A1 c1 A2 c2 (recov (abs rs)).1) :=
          ⟨(HD.out.bel hg0 hb3).bel hg0 ((Below.refl _ _).alloc (Nat.le_refl _) _), heap_alloc_new w3 _, Nat.le_trans hws hb3.size, hS3.alloc _⟩
        clear hS3 hb3 k30
        go_wp2_with fail
        refine (pick_any g (K + 2 + 100 * k) 12 _ (by omega) HS3.out.1.rdr).mono ?_
        rintro e w4 ⟨r4, hr4, hR4, hg4, -, rfl⟩
        have HS4' := Lib.hid (HS3.out.grown hg0 hg4 hR4)
        clear hr4 hR4 hg4 HS3
        go_wp2_with fail
        refine (pick_any g (K + 2 + 100 * k + 1) 2 _ (by omega) HS4'.out.1.rdr).mono ?_
        rintro e w5 ⟨r5, hr5, hR5, hg5, -, rfl⟩
        have HS5 := Lib.hid (HS4'.out.grown hg0 hg5 hR5)
        clear hr5 hR5 hg5 HS4'
        go_upto_if 32 with (fail)
        go_cut [8] (fun v wx => ∃ x : Int, v = .int .i64 x ∧ ShS w wx g (K + 2 + 100 * k + 3) w.heap.size (w.heap.size + 1 + 1) w3.heap.size A n c rs A1 c1 A2 c2 (recov (abs rs)).1)
        case first =>
          by_cases h0 : r5 = 0
          · have hd : (r5 == 0) = true := by simp [h0]
            clear h0
            go_wp2_with fail
            refine (pick_any g (K + 2 + 100 * k + 2) 4 _ (by omega) HS5.out.1.rdr).mono ?_
            rintro e w6 ⟨r6, hr6, hR6, hg6, -, rfl⟩
            have HS6 := Lib.hid (HS5.out.grown hg0 hg6 hR6)
            clear hr6 hR6 hg6
            go_wp2_with fail
            go_meet
            exact ⟨r6, rfl, HS6.out⟩
          · have hd : (r5 == 0) = false := by simp [h0]
            clear h0
            go_wp2_with fail
            go_meet
            exact ⟨r4, rfl, HS5.out.1.more (by omega), HS5.out.2⟩
        case rest =>
          clear HS5
          obtain ⟨x, rfl, hS⟩ := hcut
          have HS := Lib.hid hS
          clear hS
          have hn999 : n ≤ 999 := by omega
          have HS1k : Hid (∀ r ∈ rs, r.n ≤ 1000) := fun r hr => Nat.le_trans (HS4.out r hr) (by omega)
          obtain ⟨w6, hw6⟩ : ∃ w6, w6 = wc := ⟨_, rfl⟩
          subst hw6
          have k36 : w6.cell? ⟨w.heap.size + 1 + 1, 0, none⟩ = some (.slice A n c) := cell_zero HS.out.1.1
          have hb9 : Below w6.heap.size w6 (w6.alloc (.cells #[.slice A n c] 25)) := (Below.refl _ _).alloc (Nat.le_refl _) _
          have HS9 := Lib.hid (HS.out.grown hg0 (grown_none hb9 _) (HS.out.1.rdr.grown (grown_none hb9 none) (fun q hq => by cases hq)))
          have hn9 := heap_alloc_new w6 (.cells #[.slice A n c] 25)
          have HN9 := Lib.hid hn9
          have h63l : w3.heap.size < w6.heap.size := heap_lt HS.out.2.1
          have h6t3 : w.heap.size + 1 + 1 < w6.heap.size := heap_lt HS.out.1.1
          have h6ws : w.heap.size ≤ w6.heap.size := HS.out.1.size
          have h3ws : w.heap.size ≤ w3.heap.size := HS.out.2.2.1
          have h6g : g < w6.heap.size := by omega
          have HSW6 := Lib.hid HS.out.1
          have HG9 : Hid (w6.grownBy (w6.alloc (.cells #[.slice A n c] 25)) (some g)) := grown_none hb9 _
          clear hb9 hn9 HS
          go_wp2_with fail
          refine (pick_any g (K + 2 + 100 * k + 3) 2 _ (by omega) HS9.out.1.rdr).mono ?_
          rintro e w7 ⟨r7, hr7, hR7, hg7, -, rfl⟩
          have HS7 := Lib.hid (HS9.out.grown hg0 hg7 hR7)
          have HG67 := Lib.hid (grown_tr HG9.out hg7)
          have h97 : w7.heap[w6.heap.size]? = some (.cells #[.slice A n c] 25 (0, 0)) := (hg7.block _ (by simp) (fun e => by injection e with e; omega)).trans HN9.out
          have H97 := Lib.hid h97
          have k37 : w7.cell? ⟨w.heap.size + 1 + 1, 0, none⟩ = some (.slice A n c) := cell_zero HS7.out.1.1
          have k67 : w7.cell? ⟨w3.heap.size, 0, none⟩ = some (.slice A1 4 c1) := cell_of_row _ _ 0 _ _ _ HS7.out.2.1
          have m97 : w7.cell? ⟨w6.heap.size, 0, none⟩ = some (.slice A n c) := cell_zero h97
          have f97 : w7.frozen? ⟨w6.heap.size, 0, none⟩ = false := frozen_of_row _ _ _ _ _ h97
          have HR7 := Lib.hid hR7
          have HRec7 := Lib.hid HS7.out.1.recs
          have hl37 : w.heap.size + 1 + 1 < w7.heap.size := heap_lt HS7.out.1.1
          have hl67 : w3.heap.size < w7.heap.size := heap_lt HS7.out.2.1
          have hl97 : w6.heap.size < w7.heap.size := heap_lt h97
          have hne1 : ¬ (w6.heap.size = w.heap.size + 1 + 1) := by omega
          have hne2 : ¬ (w.heap.size + 1 + 1 = w6.heap.size) := by omega
          have hne3 : ¬ (w6.heap.size = w3.heap.size) := by omega
          have hne4 : ¬ (w3.heap.size = w6.heap.size) := by omega
          clear hr7 hR7 hg7 h97 HN9 HS9 k36
          go_upto_if 38 with (fail)
          go_cut [9] (fun v wx => v = .pointer (some ⟨w6.heap.size, 0, none⟩) ∧ ShN w wx g (K + 2 + 100 * k + 90) w.heap.size (w.heap.size + 1 + 1) w6.heap.size A n c rs)
          case first =>
            by_cases h0 : r7 = 0
            · have hd : (r7 == 0) = true := by simp [h0]
              clear h0
              have HRD : Hid (Rdr w7.drew g (K + 2 + 100 * k + 3 + 1)) := HR7.out
              have HSTD : Hid (FlH ci w7.drew w.heap.size A1 4 (recov (abs rs)).1.refs) := HS7.out.2.2.2.refs.drewN 1
              go_wp2_with fail
              go_region_held3 (fun w' => w'.cell? ⟨w.heap.size + 1 + 1, 0, none⟩ = some (.slice A n c) ∧ w'.cell? ⟨w3.heap.size, 0, none⟩ = some (.slice A1 4 c1)) (go_keep)
                (first
                  | (go_at_call 54; (with_reducible refine (l92UpdatesH_any g (K + 2 + 100 * k + 3 + 1) A1 4 c1 (recov (abs rs)).1.refs _ w.heap.size (by omega) (by omega) hg0 HSTD.out HRD.out).mono ?_); rintro e w8 ⟨k8, v8, hk8, hS8, rfl⟩; obtain ⟨B8, d8, us8, rfl, hkd8, hdm8, hF8⟩ := hS8.flH; have hd8 := hS8.drw; have HU8 : Hid (FlH cu w8 w.heap.size B8 k8 us8) := hF8.low (by simp; omega); have hg8 : w7.grownBy w8 (some g) := ⟨hd8.1.os, hd8.1.tape, hd8.1.output, hd8.1.size, hd8.1.block⟩; have HG68 := Lib.hid (grown_tr HG67.out hg8); have HS8 := Lib.hid (HS7.out.grown hg0 hg8 hd8.2); have k38 : w8.cell? ⟨w.heap.size + 1 + 1, 0, none⟩ = some (.slice A n c) := cell_zero HS8.out.1.1; have k68 : w8.cell? ⟨w3.heap.size, 0, none⟩ = some (.slice A1 4 c1) := cell_of_row _ _ 0 _ _ _ HS8.out.2.1; have h98 := (hg8.block _ hl97 (fun e => by injection e with e; omega)).trans H97.out; have H98 := Lib.hid h98; have hd863 : d8 ≤ 9223372036854775807 := hdm8; have hk81 : k8 ≤ 1000 := (by omega); have HRec8 := Lib.hid HS8.out.1.recs; have hws8 := HS8.out.1.size; clear hS8 hF8 hd8 hg8 h98)
                  | (go_at_call 53; (with_reducible refine (specPrepare_any A n c rs x B8 k8 d8 us8 w8 w.heap.size hk81 hkd8 hd863 HU8.out hn999 hnc hcm HS1k.out hws8 HRec8.out).mono ?_); rintro e w9 ⟨v9, n9, rs9, hab9, hro9, hb9, rfl⟩; obtain ⟨A9, c9, rfl, hnc9, hcm9, -⟩ := hro9.recs; have h99 := (hb9.block _ (heap_lt H98.out)).trans H98.out; have H99 := Lib.hid h99; have m99 : w9.cell? ⟨w6.heap.size, 0, none⟩ = some (.slice A n c) := cell_zero h99; have f99 : w9.frozen? ⟨w6.heap.size, 0, none⟩ = false := frozen_of_row _ _ _ _ _ h99; have HG69 := Lib.hid (grown_tr HG68.out (grown_none hb9 (some g))); have HS9 := Lib.hid (HS8.out.grown hg0 (grown_none hb9 _) (HS8.out.1.rdr.grown (grown_none hb9 none) (fun q hq => by cases hq))); have k39 : w9.cell? ⟨w.heap.size + 1 + 1, 0, none⟩ = some (.slice A n c) := cell_zero HS9.out.1.1; have k69 : w9.cell? ⟨w3.heap.size, 0, none⟩ = some (.slice A1 4 c1) := cell_of_row _ _ 0 _ _ _ HS9.out.2.1; have HRO9 := Lib.hid (hro9.low hws8); clear hab9 hro9 hb9 h99))
              go_wp2_with fail
              go_meet
              have hrf := (HS9.out.1.2.2.2.2.2.1.setCell (p := ⟨w6.heap.size, 0, none⟩) h6ws hg0 (.slice A9 n9 c9)).2
              refine ⟨rfl, ((HSW6.out.grown hg0 (grown_fresh HG69.out (Nat.le_refl _) 0 (.slice A9 n9 c9)) hrf).more (by omega)), h6ws, by omega, by omega, A9, n9, c9, rs9, HRO9.out.put H99.out (by decide) (shard_no (by simp)) _ _, hnc9, hcm9, ?_⟩
              rw [heap_setCell_same _ _ _ _ _ _ H99.out]; rfl
            · have hd : (r7 == 0) = false := by simp [h0]
              clear h0
              have HRD : Hid (Rdr w7.drew g (K + 2 + 100 * k + 3 + 1)) := HR7.out
              go_wp2_with fail
              go_region_held3 (fun w' => w'.cell? ⟨w.heap.size + 1 + 1, 0, none⟩ = some (.slice A n c)) (go_keep)
                (first
                  | (go_at_call 41; (with_reducible refine (pick_any g (K + 2 + 100 * k + 3 + 1) 3 _ (by omega) HRD.out).mono ?_); rintro e w8 ⟨r8, hr8, hR8, hg8', -, rfl⟩; have hg8 : w7.grownBy w8 (some g) := ⟨hg8'.os, hg8'.tape, hg8'.output, hg8'.size, hg8'.block⟩; have HG68 := Lib.hid (grown_tr HG67.out hg8); have HS8 := Lib.hid (HS7.out.grown hg0 hg8 hR8); have k38 : w8.cell? ⟨w.heap.size + 1 + 1, 0, none⟩ = some (.slice A n c) := cell_zero HS8.out.1.1; have h98 := (hg8.block _ hl97 (fun e => by injection e with e; omega)).trans H97.out; have H98 := Lib.hid h98; have HRec8 := Lib.hid HS8.out.1.recs; have hws8 := HS8.out.1.size; clear hR8 hg8 hg8' hr8 h98)
                  | (go_at_call 29; (with_reducible refine (specDecide_any (decide (0 < r8)) A n c rs x w8 w.heap.size hn999 hnc hcm HS1k.out hws8 HRec8.out).mono ?_); rintro e w9 ⟨v9, n9, rs9, hab9, hro9, hb9, rfl⟩; obtain ⟨A9, c9, rfl, hnc9, hcm9, -⟩ := hro9.recs; have h99 := (hb9.block _ (heap_lt H98.out)).trans H98.out; have H99 := Lib.hid h99; have m99 : w9.cell? ⟨w6.heap.size, 0, none⟩ = some (.slice A n c) := cell_zero h99; have f99 : w9.frozen? ⟨w6.heap.size, 0, none⟩ = false := frozen_of_row _ _ _ _ _ h99; have HG69 := Lib.hid (grown_tr HG68.out (grown_none hb9 (some g))); have HS9 := Lib.hid (HS8.out.grown hg0 (grown_none hb9 _) (HS8.out.1.rdr.grown (grown_none hb9 none) (fun q hq => by cases hq))); have k39 : w9.cell? ⟨w.heap.size + 1 + 1, 0, none⟩ = some (.slice A n c) := cell_zero HS9.out.1.1; have HRO9 := Lib.hid (hro9.low hws8); clear hab9 hro9 hb9 h99))
              go_wp2_with fail
              go_meet
              have hrf := (HS9.out.1.2.2.2.2.2.1.setCell (p := ⟨w6.heap.size, 0, none⟩) h6ws hg0 (.slice A9 n9 c9)).2
              refine ⟨rfl, ((HSW6.out.grown hg0 (grown_fresh HG69.out (Nat.le_refl _) 0 (.slice A9 n9 c9)) hrf).more (by omega)), h6ws, by omega, by omega, A9, n9, c9, rs9, HRO9.out.put H99.out (by decide) (shard_no (by simp)) _ _, hnc9, hcm9, ?_⟩
              rw [heap_setCell_same _ _ _ _ _ _ H99.out]; rfl
          case rest =>
            clear HS7 H97 HR7 HRec7 HG67 HSW6 HG9 k37 k67 m97 f97
            obtain ⟨rfl, hN⟩ := hcut
            obtain ⟨hD', ht9, hne92, hne93, A8, n8, c8, rs8, hro8, hnc8, hcm8, hh9⟩ := hN
            obtain ⟨wd, hwd⟩ : ∃ wd, wd = wc := ⟨_, rfl⟩
            subst hwd
            have HD' := Lib.hid hD'
            have HRO8 := Lib.hid hro8
            have HH9 := Lib.hid hh9
            have d0 : wd.cell? ⟨w6.heap.size, 0, none⟩ = some (.slice A8 n8 c8) := cell_zero hh9
            obtain ⟨Ax, cx, hex, -, -, hrecx⟩ := hro8.recs
            injection hex with hex1 _ hex3
            subst hex1 hex3
            have HRX := Lib.hid hrecx
            have hwsd := hD'.size
            clear hD' hro8 hh9 hrecx
            go_wp2_with fail
            refine (specValid_any A8 n8 c8 rs8 _ w.heap.size hnc8 hcm8 hwsd HRX.out).mono ?_
            rintro e we ⟨rfl, hbe⟩
            have HDe := Lib.hid (HD'.out.bel hg0 hbe)
            have HROe := Lib.hid (HRO8.out.fresh hbe)
            have hhe : we.heap[w6.heap.size]? = some (.cells #[.slice A8 n8 c8] 25 (0, 0)) := (hbe.block _ (heap_lt HH9.out)).trans HH9.out
            have d1 : we.cell? ⟨w6.heap.size, 0, none⟩ = some (.slice A8 n8 c8) := cell_zero hhe
            have d2 : we.cell? ⟨w.heap.size + 1 + 1, 0, none⟩ = some (.slice A n c) := cell_zero HDe.out.1
            have d3 : we.frozen? ⟨w.heap.size + 1 + 1, 0, none⟩ = false := frozen_of_row _ _ _ _ _ HDe.out.1
            clear hbe hhe
            rcases hv8 : shardB (abs rs8) with _ | _
            · go_wp2_with fail
              exact ⟨⟨k + 1, by go_num, by omega, A, n, c, rs, HSH.out, HDe.out.more (by omega)⟩, by simp [intOf]; omega⟩
            · have HV8 := Lib.hid hv8
              clear hv8
              go_wp2_with fail
              obtain ⟨e1, e2, e3, e4, e5, e6, e7⟩ := HDe.out
              have hp := HROe.out.put e1 (by decide) (shard_no (by simp)) 0 (.slice A8 n8 c8)
              refine ⟨⟨k + 1, by go_num, by omega, A8, n8, c8, rs8, HV8.out, ⟨?_, hp, ?_, e4, e5, (e6.setCell e5 hg0 _).more (by omega), hnc8, hcm8⟩⟩, by simp [intOf]; omega⟩
              · rw [heap_setCell_same _ _ _ _ _ _ e1]; rfl
              · exact (Below.heap_setCell _ _ _ _ (by simp; omega)).trans e3
      · have hkm' : (k : Int) = m := by omega
        go_wp2_with fail
        refine (pick_any g (K + 2 + 100 * k) 16 _ (by omega) HD.out.rdr).mono ?_
        rintro e w3 ⟨r3, hr3, hR3, hg3, -, rfl⟩
        have HD3 := Lib.hid (HD.out.grown hg0 hg3 hR3)
        have HDR : Hid (Recs w3 w.heap.size A n rs) := HD3.out.recs
        have q0 : w3.cell? ⟨w.heap.size + 1 + 1, 0, none⟩ = some (.slice A n c) := cell_zero HD3.out.1
        have q1 : w3.frozen? ⟨w.heap.size + 1 + 1, 0, none⟩ = false := frozen_of_row _ _ _ _ _ HD3.out.1
        have q2 : w3.cell? ⟨w.heap.size, 0, none⟩ = some (.slice none 0 0) := cell_zero HD3.out.2.2.1
        have q3 : w3.frozen? ⟨w.heap.size, 0, none⟩ = false := frozen_of_row _ _ _ _ _ HD3.out.2.2.1
        clear hr3 hR3 hg3 k30
        have HRO3 := Lib.hid HD3.out.2.1
        have HDT3 := Lib.hid HD3.out.2.2.2.2.2.1
        have hw3 := HD3.out.size
        have hne23 : ¬ (w.heap.size = w.heap.size + 1 + 1) := by omega
        have hne32 : ¬ (w.heap.size + 1 + 1 = w.heap.size) := by omega
        by_cases h0 : r3 = 0
        · have hd : (r3 == 0) = true := by simp [h0]
          have hlit : Hid (∀ x y : Int, RecIn w3 w.heap.size ⟨x, y, none, 0, 0, []⟩) := fun x y => recNil _ _ _ _
          go_wp2_with fail
          have HRD : Hid (Rdr w3.drew g (K + 2 + 100 * k + 1)) := HD3.out.rdr
          have tok1 : True := trivial
          go_region_law (first
            | (have _t := tok1; go_simp; go_at_call 41; refine (pick_any g _ _ _ (by omega) HRD.out).mono ?_; rintro e w4 ⟨r4, hr4, hR4, hg4', -, rfl⟩; have hg4 : w3.grownBy w4 (some g) := ⟨hg4'.os, hg4'.tape, hg4'.output, hg4'.size, hg4'.block⟩; have HD4 := Lib.hid (HD3.out.grown hg0 hg4 hR4); have z40 : w4.cell? ⟨w.heap.size + 1 + 1, 0, none⟩ = some (.slice A n c) := cell_zero HD4.out.1; have tok2 : True := trivial; clear tok1 hg4' hg4 hR4 hr4)
            | (have _t := tok2; go_simp; go_at_call 41; refine (pick_any g _ _ _ (by omega) HD4.out.rdr).mono ?_; rintro e w5 ⟨r5, hr5, hR5, hg5, -, rfl⟩; have HD5 := Lib.hid (HD4.out.grown hg0 hg5 hR5); have z50 : w5.cell? ⟨w.heap.size + 1 + 1, 0, none⟩ = some (.slice A n c) := cell_zero HD5.out.1; have h5ws := HD5.out.size; have HRO5 := Lib.hid HD5.out.2.1; have h5t : w.heap.size + 1 + 1 < w5.heap.size := heap_lt HD5.out.1; have tok3 : True := trivial; clear tok2 hg5 hR5 hr5)
            | (have _t := tok3; refine step_app_at Try.elRec (HRO5.out.1.alloc _) (rd_newn (n := w5.heap.size) rfl (cr ⟨r4, r5, none, 0, 0, []⟩) _) rfl (cr_one _) (by unfold maxLen; omega) (by omega) (by simp; omega) rfl rfl rfl rfl ?_; intro v6 w6 hown6 hg6 hat6; have hro6 := HRO5.out.app (recNil _ _ r4 r5) (fun hh => absurd rfl hh) rfl hown6 hg6 hat6; obtain ⟨A6, c6, rfl, hnc6, hcm6, -⟩ := hro6.recs; have HRO6 := Lib.hid hro6; have hk6 : ∀ (q : Nat) (arr : Array Value), w5.heap[q]? = some (.cells arr 25 (0, 0)) → w6.heap[q]? = some (.cells arr 25 (0, 0)) := (fun q arr hh => (hg6.block q (by simp; exact Nat.lt_succ_of_lt (heap_lt hh)) (fun e => (HRO5.out.ne_blk hh (by decide)) e.symm)).trans ((Below.heap_alloc _ _ _ (heap_lt hh)).trans hh)); have y3 := hk6 _ _ HD5.out.1; have y2 := hk6 _ _ HD5.out.2.2.1; have Y3 := Lib.hid y3; have Y2 := Lib.hid y2; have z60 : w6.frozen? ⟨w.heap.size + 1 + 1, 0, none⟩ = false := frozen_of_row _ _ _ _ _ y3; have z61 : w6.frozen? ⟨w.heap.size, 0, none⟩ = false := frozen_of_row _ _ _ _ _ y2; have z62 : w6.cell? ⟨w.heap.size, 0, none⟩ = some (.slice none 0 0) := cell_zero y2; have z63 : w6.cell? ⟨w.heap.size + 1 + 1, 0, none⟩ = some (.slice A n c) := cell_zero y3; have HDT6 := Lib.hid ((HD5.out.2.2.2.2.2.1.alloc _).own hg0 (HRO5.out.1.alloc _) hg6); clear tok3 hown6 hg6 hat6 hro6 hk6 y3 y2))
          all_goals
            go_wp2_with fail
            have hX2 : (w6.setCell ⟨w.heap.size + 1 + 1, 0, none⟩ (.slice A6 (n + 1) c6)).heap[w.heap.size]? = some (.cells #[.slice none 0 0] 25 (0, 0)) := (Below.heap_setCell _ _ _ _ (by simp; omega)).trans Y2.out
            have hf := ((HRO6.out.put Y3.out (by decide) (shard_no (by simp)) 0 (.slice A6 (n + 1) c6)).put hX2 (by decide) (shard_no (by simp)) 0 (.slice A6 (n + 1) c6)).recs'
            exact bodyPost_ret (v := .agg #[.slice A6 (n + 1) c6]) (by simp [results, Try.results33, go_sem, z62]) rfl ⟨A6, n + 1, c6, _, .inr (.inl ⟨abs rs, r4, r5, abs_app _ _, HSH.out⟩), hf, hnc6, hcm6, by omega, (fun r hr => by
              rcases List.mem_append.1 hr with hr | hr
              · exact HS4.out r hr
              · rw [List.mem_singleton] at hr; subst hr; exact Nat.zero_le _), ((HDT6.out.setCell (p := ⟨w.heap.size + 1 + 1, 0, none⟩) (by show w.heap.size ≤ w.heap.size + 1 + 1; omega) hg0 _).setCell (p := ⟨w.heap.size, 0, none⟩) (Nat.le_refl _) hg0 _).more (by omega), rfl⟩
        · have hd : (r3 == 0) = false := by simp [h0]
          by_cases h1 : r3 = 1
          · have hd1 : (r3 == 1) = true := by simp [h1]
            by_cases hn0 : n = 0
            · subst hn0
              go_wp2_with fail
              exact bodyPost_ret (v := .agg #[.slice A 0 c]) (by simp [results, Try.results33, go_sem, q2]) rfl ⟨A, 0, c, rs, .inl HSH.out, (HRO3.out.put HD3.out.2.2.1 (by decide) (shard_no (by simp)) 0 (.slice A 0 c)).recs', hnc, hcm, by omega, HS4.out, (HDT3.out.setCell (Nat.le_refl _) hg0 _).more (by omega), rfl⟩
            · have hnp : (0 : Int) < n := by omega
              have hn1 : 1 ≤ n := by omega
              have hn1i : (1 : Int) ≤ n := by omega
              have hc1 : (n : Int) ≤ c := by omega
              obtain ⟨b, o, hll, rfl, -, -, -, -, -, -⟩ := HDR.out.at_ (k := 0) (by omega)
              have HDP := Lib.hid (HDR.out.drop1 (by omega))
              have hdrop : Hid (DrawnL (abs (rs.drop 1))) := .inr (.inr ⟨abs rs, by unfold abs; rw [List.map_drop], HSH.out⟩)
              have hdm : Hid (∀ r ∈ rs.drop 1, r.n ≤ 4) := fun r hr => HS4.out r (List.mem_of_mem_drop hr)
              by_cases hcc : c = 1
              · have hn1' : n = 1 := by omega
                subst hcc hn1'
                go_wp2_with fail
                have hX2 : (w3.setCell ⟨w.heap.size + 1 + 1, 0, none⟩ (.slice (some ⟨b, o, none⟩) 0 0)).heap[w.heap.size]? = some (.cells #[.slice none 0 0] 25 (0, 0)) := (Below.heap_setCell _ _ _ _ (by simp; omega)).trans HD3.out.2.2.1
                have hf := ((HRO3.out.put HD3.out.1 (by decide) (shard_no (by simp)) 0 (.slice (some ⟨b, o, none⟩) 0 0)).put hX2 (by decide) (shard_no (by simp)) 0 (.slice (some ⟨b, o, none⟩) 0 0)).recs'.drop1 (by omega)
                exact bodyPost_ret (v := .agg #[.slice (some ⟨b, o, none⟩) 0 0]) (by simp [results, Try.results33, go_sem, q2]) rfl ⟨_, 0, 0, rs.drop 1, hdrop.out, (by have e : rs.drop 1 = [] := List.eq_nil_of_length_eq_zero (by have := hf.1.1; omega); rw [e]; exact Recs.nil _ _ _), by omega, by omega, by omega, hdm.out, ((HDT3.out.setCell (p := ⟨w.heap.size + 1 + 1, 0, none⟩) (by show w.heap.size ≤ w.heap.size + 1 + 1; omega) hg0 _).setCell (p := ⟨w.heap.size, 0, none⟩) (Nat.le_refl _) hg0 _).more (by omega), rfl⟩
              · have hcc' : 1 < c := by omega
                go_wp2_with fail
                have hX2 : (w3.setCell ⟨w.heap.size + 1 + 1, 0, none⟩ (.slice (some ⟨b, o + 3, none⟩) (n - 1) (c - 1))).heap[w.heap.size]? = some (.cells #[.slice none 0 0] 25 (0, 0)) := (Below.heap_setCell _ _ _ _ (by simp; omega)).trans HD3.out.2.2.1
                have hf := ((HRO3.out.put HD3.out.1 (by decide) (shard_no (by simp)) 0 (.slice (some ⟨b, o + 3, none⟩) (n - 1) (c - 1))).put hX2 (by decide) (shard_no (by simp)) 0 (.slice (some ⟨b, o + 3, none⟩) (n - 1) (c - 1))).recs'.drop1 (by omega)
                exact bodyPost_ret (v := .agg #[.slice (some ⟨b, o + 3, none⟩) (n - 1) (c - 1)]) (by simp [results, Try.results33, go_sem, q2]) rfl ⟨_, n - 1, c - 1, rs.drop 1, hdrop.out, hf, by omega, by omega, by omega, hdm.out, ((HDT3.out.setCell (p := ⟨w.heap.size + 1 + 1, 0, none⟩) (by show w.heap.size ≤ w.heap.size + 1 + 1; omega) hg0 _).setCell (p := ⟨w.heap.size, 0, none⟩) (Nat.le_refl _) hg0 _).more (by omega), rfl⟩
          · have hd1 : (r3 == 1) = false := by simp [h1]
            go_wp2_with fail
            exact bodyPost_ret (v := .agg #[.slice A n c]) (by simp [results, Try.results33, go_sem, q2]) rfl ⟨A, n, c, rs, .inl HSH.out, (HRO3.out.put HD3.out.2.2.1 (by decide) (shard_no (by simp)) 0 (.slice A n c)).recs', hnc, hcm, by omega, HS4.out, (HDT3.out.setCell (Nat.le_refl _) hg0 _).more (by omega), rfl⟩

end Go.Proofs.Ytgnhanbdfohjaaa
