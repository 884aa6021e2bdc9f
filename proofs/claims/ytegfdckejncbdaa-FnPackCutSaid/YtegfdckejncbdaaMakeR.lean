/-
  The walk of the reference's PackMake: a pack of objects, in new memory. Condition: lengths are small.
-/
import Derived.Test.YtegfdckejncbdaaMakeQ
import Derived.Test.YtegfdckejncbdaaPackT
namespace Go.Proofs.Ytegfdckejncbdaa
set_option linter.unusedVariables false
set_option linter.unusedSimpArgs false
open Go.RowKit

theorem Try.elPE : ElemT Try.prog 25 50 (.agg #[.int .i64 0, .slice none 0 0, .int .i64 0, .slice none 0 0]) 4 64 := ⟨Try.underlying25, by kernel_rfl, rfl, by decide⟩

/-- an entry is small -/
def smallE (p : PED) : Prop := p.links.length ≤ 1000 ∧ p.ops.length ≤ 8 ∧ ∀ o ∈ p.ops, o.text.size ≤ 9
theorem szL_all {α : Type} (f : α → List D) (B : Nat) : ∀ (xs : List α), (∀ x ∈ xs, D.szL (f x) ≤ B) → D.szL (xs.flatMap f) ≤ xs.length * B
  | [], _ => by rw [List.flatMap_nil, szL_nil]; omega
  | x :: xs, h => by
    rw [List.flatMap_cons, szL_app, List.length_cons, Nat.add_mul]
    have h1 := h x (List.mem_cons_self ..)
    have h2 := szL_all f B xs (fun y hy => h y (List.mem_cons_of_mem _ hy))
    omega
theorem smallE_sz {p : PED} (h : smallE p) : D.szL (fPackEntry p) ≤ 1100 := by
  obtain ⟨h1, h2, h3⟩ := h
  rw [szL_fPackEntry, sz_ints]
  unfold dOps
  rw [sz_arr]
  have h4 := szL_all fOp 9 p.ops (fun o ho => by rw [szL_fOp]; exact h3 o ho)
  omega
theorem small_sz {ps : List PED} (hn : ps.length ≤ 17) (h : ∀ p ∈ ps, smallE p) : D.sz (dPackEntrys ps) ≤ 1048576 := by
  unfold dPackEntrys
  rw [sz_arr]
  have h1 := szL_all fPackEntry 1100 ps (fun p hp => smallE_sz (h p hp))
  omega

theorem row_own {w : World} {base m n : Nat} {E : TypeId} {v : Value} {es : List D} {vs : List Value} (h1 : w.ownsRow base E m v n vs) (h2 : D.ownL w es [] vs) : ∃ F : List Nat, F.Nodup ∧ (∀ g ∈ F, v.ownBlock = some g) ∧ D.own w (.arr m n es) F v := by
  have hl := D.ownL.length h2
  obtain ⟨A, c, rfl, hc1, hc2, -⟩ := Rd.of_own h1
  unfold maxLen at hc2
  have hes : es.length = n * m := by rw [← hl]; exact h1.1
  rcases h1.2 with ⟨e, rfl⟩ | ⟨g, cap, cur, e, hb, hh, _⟩
  · have : vs = [] := List.eq_nil_of_length_eq_zero (by simpa using h1.1)
    subst this
    refine ⟨[], List.nodup_nil, fun _ h => (by cases h), ?_⟩
    unfold D.own
    exact ⟨A, c, [], [], rfl, hc1, hc2, hes, h2, .inl ⟨rfl, rfl⟩⟩
  · injection e with e1 e2 e3
    subst e1
    refine ⟨[g], by simp, fun q hq => by rw [List.mem_singleton.1 hq]; rfl, ?_⟩
    unfold D.own
    refine ⟨_, c, vs, [], rfl, hc1, hc2, hes, h2, .inr ⟨g, 0, rfl, rfl, fun j u hu => ⟨?_, ?_⟩⟩⟩
    · have := h1.cells (g := g) rfl j u hu
      have e2 : (⟨g, 0, none⟩ : Addr).add j = ⟨g, 0 + j, none⟩ := by
        unfold Addr.add
        by_cases hj : j = 0 <;> simp [hj]
      rw [← e2]; exact this
    · exact frozen_of_row w g _ _ _ hh
theorem ownL_ops {w : World} : ∀ (xs : List OpD), (∀ o ∈ xs, o.text.size ≤ 9223372036854775807) → D.ownL w (xs.flatMap fOp) [] (xs.flatMap co)
  | [], _ => D.ownL.nil w
  | x :: xs, h => by
    have h1 := D.ownL.cons (D.own.int w x.at_) (D.ownL.cons (D.own.int w x.size) (D.ownL.cons (D.own.str w (h x (List.mem_cons_self ..))) (ownL_ops (w := w) xs (fun o ho => h o (List.mem_cons_of_mem _ ho)))))
    simpa [co, fOp] using h1
theorem blk_ne {w : World} {b1 b2 s1 s2 n1 n2 : Nat} {e1 e2 : TypeId} {v1 v2 : Value} {c1 c2 : List Value} (h1 : w.ownsRow b1 e1 s1 v1 n1 c1) (h2 : w.ownsRow b2 e2 s2 v2 n2 c2) (he : e1 ≠ e2) (g : Nat) (k1 : v1.ownBlock = some g) (k2 : v2.ownBlock = some g) : False := by
  obtain ⟨x1, y1⟩ := own_blk h1 k1
  obtain ⟨x2, y2⟩ := own_blk h2 k2
  rw [y1] at y2
  injection y2 with y2
  injection y2 with _ y3
  exact he y3
/-- an entry's parts in memory of their own -/
theorem OwnL.ent {w : World} {lo lo1 lo2 nk d n5 c5 : Nat} {kind r : Int} {links : List Int} {xs : List OpD} {B A5 : Option Addr} (hl1 : lo ≤ lo1) (hl2 : lo ≤ lo2) (h1 : w.ownsRow lo1 3 1 (.slice B nk d) nk (links.flatMap ci)) (h2 : w.ownsRow lo2 87 3 (.slice A5 n5 c5) n5 (xs.flatMap co)) (ht : ∀ o ∈ xs, o.text.size ≤ 8) :
    OwnL w lo (fPackEntry ⟨kind, links, r, xs⟩) [.int .i64 kind, .slice B nk d, .int .i64 r, .slice A5 n5 c5] := by
  obtain ⟨F, f1, f2, f3⟩ := row_own h1 (ownL_ints links)
  obtain ⟨G, g1, g2, g3⟩ := row_own h2 (ownL_ops xs (fun o ho => by have := ht o ho; omega))
  have e1 : links.length = nk := by have := h1.1; rw [flat_len ci 1 ci_len] at this; omega
  have e2 : xs.length = n5 := by have := h2.1; rw [flat_len co 3 co_len] at this; omega
  subst e1 e2
  refine ⟨F ++ G, List.nodup_append.2 ⟨f1, g1, fun a ha b hb e => ?_⟩, fun g hg => ?_, ?_⟩
  · subst e; exact blk_ne h1 h2 (by decide) a (f2 a ha) (g2 a hb)
  · rcases List.mem_append.1 hg with hg | hg
    · have := h1.lt g (f2 g hg); omega
    · have := h2.lt g (g2 g hg); omega
  · have := D.ownL.cons (D.own.int w kind) (D.ownL.cons (show D.own w (intsD links) F _ from f3) (D.ownL.cons (D.own.int w r) (D.ownL.cons (show D.own w (dOps xs) G _ from g3) (D.ownL.nil w))))
    simpa [fPackEntry] using this

/-- what PackMake answers -/
def MadeP (w : World) (e : Ending) (w' : World) : Prop :=
  ∃ (ps : List PED) (B : Option Addr) (m d : Nat) (ok : Bool), Own w' w.heap.size (dPackEntrys ps) (.slice B m d) ∧ m = ps.length ∧ m ≤ 17 ∧ (∀ p ∈ ps, smallE p) ∧ Below w.heap.size w w' ∧ e = .returned (.tuple #[.slice B m d, .bool ok])
theorem MadeP.no {w w' : World} {A : Option Addr} {c : Nat} {ok : Bool} (hc : c ≤ 9223372036854775807) (hb : Below w.heap.size w w') : MadeP w (.returned (.tuple #[.slice A 0 c, .bool ok])) w' :=
  ⟨[], A, 0, c, ok, own_nilD _ _ _ _ _ hc, rfl, by omega, fun _ h => (by cases h), hb, rfl⟩

/-- an entry's parts have been made behind a row of entries -/
theorem ent_made {w w3 w5 : World} {k lo1 lo2 nk d n5 c5 : Nat} {v : Value} {es : List D} {kind r : Int} {links : List Int} {xs : List OpD} {B A5 : Option Addr} (hgr : Grow w3 w.heap.size 50 4 v k es) (hs : w.heap.size ≤ w3.heap.size) (hb : Below w3.heap.size w3 w5) (hl1 : w3.heap.size ≤ lo1) (hl2 : w3.heap.size ≤ lo2) (h1 : w5.ownsRow lo1 3 1 (.slice B nk d) nk (links.flatMap ci)) (h2 : w5.ownsRow lo2 87 3 (.slice A5 n5 c5) n5 (xs.flatMap co)) (ht : ∀ o ∈ xs, o.text.size ≤ 8) :
    ∃ vs, w5.ownsRow w.heap.size 50 4 v k vs ∧ ∃ F G, w5.ownsRow w.heap.size 50 4 v k vs ∧ D.ownL w5 es F vs ∧ D.ownL w5 (fPackEntry ⟨kind, links, r, xs⟩) G [.int .i64 kind, .slice B nk d, .int .i64 r, .slice A5 n5 c5] ∧ (F ++ G).Nodup ∧ (∀ g ∈ F ++ G, w.heap.size ≤ g ∧ g < w5.heap.size) ∧ ∀ g, v.ownBlock = some g → g ∉ F ++ G := by
  obtain ⟨vs, F, G, hov, hrest⟩ := GrowP.mk_ hgr hb (OwnL.ent (kind := kind) (r := r) hl1 hl2 h1 h2 ht) hs
  exact ⟨vs, hov, F, G, hov, hrest⟩

set_option maxHeartbeats 6400000 in
set_option maxRecDepth 100000 in
theorem specPackMake_any (os : List ObjD) (A : Option Addr) (n c : Nat) (w : World) (lo hi : Nat) (hh : hi ≤ w.heap.size) (hn : n ≤ 17) (ho : ∀ o ∈ os, smallO o) (h : D.rd w lo hi (dObjects os) (.slice A n c)) :
    Calls Try.prog 52 #[.slice A n c] w fun e w' => MadeP w e w' := by
  have HI := Lib.hid h
  have HS := Lib.hid ho
  have HNIL := Lib.hid (own_nil_lit w 50 4)
  have hs0 : w.heap.size ≤ (w.alloc (.cells #[] 50)).heap.size := by simp
  clear h ho
  go_enter Try.func52, Try.ntmps52
  go_wp2_with fail
  go_loopw [4, 5] (fun v i wr => ∃ (k : Nat) (ps : List PED), k ≤ n ∧ i = .int .i64 k ∧ Hid (ps.length = k) ∧ Hid (∀ p ∈ ps, smallE p) ∧ Hid (basesOk ps) ∧ Grow wr w.heap.size 50 4 v k (ps.flatMap fPackEntry) ∧ Below w.heap.size w wr) (fun _ i _ => n - (intOf i).toNat)
  case atStart => exact ⟨0, [], Nat.zero_le _, rfl, rfl, (fun _ h => (by cases h)), (fun i h => (by cases h)), Grow.nil HNIL.out, (Below.refl _ _).alloc (Nat.le_refl _) _⟩
  case round =>
    obtain ⟨k, ps, hk, rfl, HL, HP, HBO, hgr, hb⟩ := hrel
    obtain ⟨B6, d6, rfl, hd61, hd62, -⟩ := hgr.own.rd.arr_inv
    have HGR := Lib.hid hgr
    have HB := Lib.hid hb
    have hwsz := hb.size
    clear hb hgr
    by_cases hlt : k < n
    · obtain ⟨b, o, hp, A1, nk, c1, rfl, _, hbh, hc0, hc1, hc2, ⟨hn1, hm1, hr1⟩, -⟩ := rd_Object (HI.out.below HB.out hh) hlt
      have HR1 := Lib.hid hr1
      have HTX := Lib.hid (HS.out _ (List.getElem_mem hp)).2
      have ht9 := HTX.out
      have hl1000 := (HS.out _ (List.getElem_mem hp)).1
      have hnk : nk ≤ 1000 := by have h9 := hr1.ints.1; omega
      have hhr : hi ≤ wr.heap.size := Nat.le_trans hh hwsz
      clear hr1 hl1000
      have hbw0 : b < w.heap.size := by omega
      have HCW : Hid (w.cell? ⟨b, o + k * 3, none⟩ = some (.int .i64 os[k].kind) ∧ w.cell? ⟨b, o + k * 3 + 1, none⟩ = some (.slice A1 nk c1) ∧ w.cell? ⟨b, o + k * 3 + 2, none⟩ = some (.string os[k].text)) := ⟨(HB.out.cell hbw0).symm.trans hc0, (HB.out.cell hbw0).symm.trans hc1, (HB.out.cell hbw0).symm.trans hc2⟩
      go_wp2_with fail
      refine (objValid_any os[k].kind os[k].links os[k].text A1 nk c1 wr lo hi hhr (by omega) HR1.out).mono ?_
      rintro e w1 ⟨rfl, hb1⟩
      have HB1 := Lib.hid (bel_tr HB.out (Nat.le_refl _) hb1)
      have HGR1 := Lib.hid (HGR.out.fresh hb1)
      have hbw : b < wr.heap.size := by omega
      have k0 := (hb1.cell (p := ⟨b, o + k * 3, none⟩) hbw).trans hc0
      have k1 := (hb1.cell (p := ⟨b, o + k * 3 + 1, none⟩) hbw).trans hc1
      have k2 := (hb1.cell (p := ⟨b, o + k * 3 + 2, none⟩) hbw).trans hc2
      have HI1 := Lib.hid (HI.out.below HB1.out hh)
      have HR11 := Lib.hid (HR1.out.below hb1 hhr)
      have hs1 := hb1.size
      have hh1 : hi ≤ w1.heap.size := by omega
      have hws1 : w.heap.size ≤ w1.heap.size := by omega
      clear hb1 hc0 hc1 hc2
      rcases hv : objB ⟨os[k].kind, os[k].links, os[k].text⟩ with _ | _
      · clear hv
        go_wp2_with fail
        go_ret2
        exact MadeP.no (by omega) (HB1.out.alloc hws1 _)
      · clear hv
        by_cases hbig : 16 < n
        · have hbi : (16 : Int) < n := by omega
          go_wp2_with fail
          go_ret2
          exact MadeP.no (by omega) (HB1.out.alloc hws1 _)
        · have hbi : (n : Int) ≤ 16 := by omega
          have HRP : Hid (D.rd w1 w.heap.size w1.heap.size (dPackEntrys ps) (.slice B6 k d6)) := by
            show D.rd _ _ _ _ _
            unfold dPackEntrys
            rw [HL.out]
            exact HGR1.out.own.rd
          go_wp2_with fail
          refine (l3Best_any ps os B6 (some ⟨b, o, none⟩) k d6 n c os[k].text _ w.heap.size w1.heap.size lo hi (Nat.le_refl _) hh1 (by omega) (by omega) ht9 HS.out HRP.out HI1.out HBO.out).mono ?_
          rintro e w2 ⟨⟨r, hr1, hr2, rfl⟩, hb2⟩
          have HB2 := Lib.hid (bel_tr HB1.out (Nat.le_refl _) hb2)
          have HGR2 := Lib.hid (HGR1.out.fresh hb2)
          have hb1w : b < w1.heap.size := by omega
          have j0 := (hb2.cell (p := ⟨b, o + k * 3, none⟩) hb1w).trans k0
          have j1 := (hb2.cell (p := ⟨b, o + k * 3 + 1, none⟩) hb1w).trans k1
          have j2 := (hb2.cell (p := ⟨b, o + k * 3 + 2, none⟩) hb1w).trans k2
          have HI2 := Lib.hid (HI1.out.below hb2 hh1)
          have HR2 := Lib.hid (HR11.out.below hb2 hh1)
          have hs2 := hb2.size
          clear hb2 k0 k1 k2 HRP HI1 HGR1 HB1 HR1 HR11
          go_upto_if 36 with (fail)
          go_cut [7] (fun v wx => (∃ bt, v = .string bt ∧ bt.size ≤ 9) ∧ wx = w2)
          case first =>
            by_cases h0 : 0 ≤ r
            · obtain ⟨j, rfl⟩ := Int.eq_ofNat_of_zero_le h0
              have hjk : j < k := by omega
              obtain ⟨b2, o2, hl2, A2, n2, c2, e2, -, hb2h, -, -, ht2, -, -⟩ := rd_Object HI2.out (k := j) (by omega)
              injection e2 with e2
              injection e2 with ea eb ec
              subst ea eb
              have hs2' := (HS.out _ (List.getElem_mem hl2)).2
              go_wp2_with fail
              go_meet
              exact ⟨⟨_, rfl, hs2'⟩, rfl⟩
            · go_wp2_with fail
              go_meet
              exact ⟨⟨_, rfl, by decide⟩, rfl⟩
          case rest =>
            obtain ⟨⟨bt, rfl, hbt⟩, hwc⟩ := hcut
            obtain ⟨w3, hw3⟩ : ∃ w3, w3 = wc := ⟨_, rfl⟩
            subst hwc
            subst hw3
            have hh3 : hi ≤ w3.heap.size := by omega
            have hws3 : w.heap.size ≤ w3.heap.size := by omega
            have hb3w : b < w3.heap.size := by omega
            have HLA : Hid ((w3.drew.alloc (.cells #[] 3)).ownsRow w3.heap.size 3 1 (.slice (some ⟨w3.heap.size, 0, none⟩) 0 0) 0 []) := Lib.hid (own_nil_lit w3.drew 3 1)
            have HRA : Hid (Ints (w3.drew.alloc (.cells #[] 3)) lo hi A1 nk os[k].links) := Lib.hid (HR2.out.drew.ints.alloc hh3 _)
            have tok1 : True := trivial
            go_upto_region 11 with (fail)
            go_region_held_law (fun w' => w'.cell? ⟨b, o + k * 3, none⟩ = some (.int .i64 os[k].kind) ∧ w'.cell? ⟨b, o + k * 3 + 1, none⟩ = some (.slice A1 nk c1) ∧ w'.cell? ⟨b, o + k * 3 + 2, none⟩ = some (.string os[k].text)) (go_keep)
              (first
                | (have _t := tok1; refine step_app_at Try.elI HLA.out HRA.out.2 (by rw [flat_len ci 1 ci_len, HRA.out.1]) (by rw [flat_ci]; simp [Value.oneCell']) (by unfold maxLen; omega) (by omega) (by first | (simp; done) | (simp; omega)) rfl rfl rfl rfl ?_; intro v4 w4 hown4 hg4 hat4; rw [Nat.zero_add, List.nil_append] at hown4; obtain ⟨B4, d4, rfl, -, -, -⟩ := Rd.of_own hown4; go_must (have hb4 : Below w3.heap.size w3 w4 := (((Below.refl w3.heap.size w3).drew).alloc (Nat.le_refl _) (.cells #[] 3)).grown hg4 (by first | (simp; done) | (simp; omega)) (fun q hq => by have := (HLA.out.lt q hq).1; exact this)); have q0 := (hb4.cell hb3w).trans j0; have q1 := (hb4.cell hb3w).trans j1; have q2 := (hb4.cell hb3w).trans j2; have HO4 := Lib.hid hown4; have HB4 := Lib.hid hb4; have hl4 : b < w4.heap.size := Nat.lt_of_lt_of_le hb3w hb4.size; have tokP : True := trivial; clear tok1 hown4 hg4 hat4 hb4)
                | (have _t := tokP; go_simp; go_at_call 68; refine (specMake_ex bt os[k].text _ (by omega) (by omega)).mono ?_; rintro e w5 ⟨xs5, A5, n5, c5, hn5, hc51, hc52, HL5, HX5, hown5, hb5, rfl⟩; have p0 := (hb5.cell hl4).trans q0; have p1 := (hb5.cell hl4).trans q1; have p2 := (hb5.cell hl4).trans q2; go_must (have HB5 := Lib.hid (bel_tr HB4.out (Nat.le_refl _) hb5)); go_must (obtain ⟨vs5, hov5, hrest5⟩ := ent_made (r := r) (kind := os[k].kind) HGR2.out hws3 HB5.out (Nat.le_refl _) HB4.out.size (own_below HO4.out hb5) hown5 HX5.out); have HOV := Lib.hid hov5; have HFG := Lib.hid hrest5; have HXL : Hid (xs5.length ≤ 8) := (by show xs5.length ≤ 8; rw [HL5.out]; exact hn5); have tokQ : True := trivial; clear tokP hown5 hb5 hov5 hrest5)
                | (have _t := tokQ; refine step_app_at Try.elPE (m := 1) (news := [.int .i64 os[k].kind, .slice B4 nk d4, .int .i64 r, .slice A5 n5 c5]) (HOV.out.alloc _) (rd_newn rfl [.int .i64 os[k].kind, .slice B4 nk d4, .int .i64 r, .slice A5 n5 c5] 50) rfl (by simp [Value.oneCell']) (by unfold maxLen; omega) (by omega) (by have := HB5.out.size; simp; omega) rfl rfl rfl rfl ?_; intro v7 w7 hown7 hg7 hat7; go_must (have HGR7 := Lib.hid (GrowP.done HFG.out hown7 hg7 hat7)); go_must (have HB7 := Lib.hid (below_app ((bel_tr HB2.out (Nat.le_refl _) HB5.out).alloc (Nat.le_trans hws3 HB5.out.size) _) (Nat.le_refl _) (by have := HB5.out.size; simp; omega) (HOV.out.alloc _) hg7)); have z0 := (HB7.out.cell hbw0).trans HCW.out.1; have z1 := (HB7.out.cell hbw0).trans HCW.out.2.1; have z2 := (HB7.out.cell hbw0).trans HCW.out.2.2; clear tokQ hown7 hg7 hat7))
            all_goals
              go_wp2_with fail
              go_roundw
              case rel => exact ⟨k + 1, ps ++ [⟨os[k].kind, os[k].links, r, xs5⟩], by omega, by go_num, by show _ = _; rw [List.length_append, HL.out]; rfl, (fun p hp' => (List.mem_append.1 hp').elim (HP.out p) (fun h => by rw [List.mem_singleton.1 h]; exact ⟨(HS.out _ (List.getElem_mem hp)).1, HXL.out, fun o ho => by have := HX5.out o ho; omega⟩)), basesOk_snoc HBO.out _ hr1 (by have := HL.out; show r ≤ (ps.length : Int) - 1; omega), by rw [List.flatMap_append]; simpa using HGR7.out, HB7.out⟩
              case measure => simp [intOf]; omega
    · have hkn : k = n := by omega
      subst hkn
      have HO2 := Lib.hid HGR.out.own
      go_wp2_with fail
      go_ret2
      exact ⟨ps, B6, k, d6, true, by unfold dPackEntrys; rw [HL.out]; exact HO2.out, HL.out.symm, hn, HP.out, HB.out, rfl⟩

end Go.Proofs.Ytegfdckejncbdaa
