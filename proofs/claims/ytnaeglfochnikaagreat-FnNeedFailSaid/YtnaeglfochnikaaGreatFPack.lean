/-
  The walks of both sides' FetchPack: the pack of what is needed. Condition: lengths fit an int64; the library's variable MaxLen holds some number.
-/
import Derived.Test.YtnaeglfochnikaaGreatZ12
import Derived.Test.YtnaeglfochnikaaGreatMkI
import Derived.Test.YtnaeglfochnikaaGreatMkR
import Derived.Test.YtnaeglfochnikaaGreatZ15
import Derived.Test.YtnaeglfochnikaaGreatSpecQ9
namespace Go.Proofs.YtnaeglfochnikaaGreat
set_option linter.unusedVariables false
set_option linter.unusedSimpArgs false
open Go.RowKit

theorem Rd.takeG {w : World} {lo hi : Nat} {A : Option Addr} {cs : List Value} (h : Rd w lo hi A cs) (k : Nat) : Rd w lo hi A (cs.take k) := fun hn => by
  obtain ⟨b, o, e, h1, h2, hc⟩ := h (fun e => hn (by rw [e]; simp))
  refine ⟨b, o, e, h1, h2, fun j u hu => ?_⟩
  rw [List.getElem?_take] at hu
  split at hu
  · exact hc j u hu
  · cases hu
theorem Rd.dropG {w : World} {lo hi b o : Nat} {cs : List Value} (h : Rd w lo hi (some ⟨b, o, none⟩) cs) (k : Nat) : Rd w lo hi (some ⟨b, o + k, none⟩) (cs.drop k) := fun hn => by
  obtain ⟨b', o', e, h1, h2, hc⟩ := h (fun e => hn (by rw [e]; simp))
  injection e with e
  injection e with e1 e2
  subst e1 e2
  refine ⟨b, o + k, rfl, h1, h2, fun j u hu => ?_⟩
  rw [List.getElem?_drop] at hu
  have := hc _ _ hu
  rwa [← Nat.add_assoc] at this
/-- one element of a row, as a row -/
theorem rd_oneO {w : World} {lo hi n c k b o : Nat} {os : List ObjD} (h : D.rd w lo hi (dObjects os) (.slice (some ⟨b, o, none⟩) n c)) (hk : k < os.length) (d : Nat) (hd1 : 1 ≤ d) (hd : d ≤ 9223372036854775807) :
    D.rd w lo hi (dObjects [os[k]]) (.slice (some ⟨b, o + k * 3, none⟩) 1 d) := by
  unfold dObjects D.rd at h ⊢
  obtain ⟨A, c', vs, g1, g2, g3, g4, g5, g6⟩ := h
  injection g1 with e1 e2 e3
  subst e1
  have hsplit : os.flatMap fObject = (os.take k).flatMap fObject ++ ((fObject os[k]) ++ (os.drop (k + 1)).flatMap fObject) := by
    rw [← List.flatMap_cons, ← List.flatMap_append, ← List.drop_eq_getElem_cons hk, List.take_append_drop]
  rw [hsplit] at g6
  obtain ⟨x, y, rfl, a1, a2⟩ := D.rdL.app_inv g6
  obtain ⟨y1, y2, rfl, a3, a4⟩ := D.rdL.app_inv a2
  have hxl : x.length = k * 3 := by rw [D.rdL.length a1, flat_lenG fObject 3 fObject_len, List.length_take, Nat.min_eq_left (by omega)]
  have hyl : y1.length = 3 := by rw [D.rdL.length a3]; rfl
  refine ⟨_, d, y1, rfl, hd1, hd, rfl, ?_, by simpa using a3⟩
  have h1 := (g5.dropG (k * 3)).takeG 3
  rw [← hxl, List.drop_left, ← hyl, List.take_left] at h1
  rw [← hxl]; exact h1
theorem ownL_objV {w : World} {lo : Nat} {x : ObjD} {F : List Nat} {vs : List Value} (hF : ∀ g ∈ F, lo ≤ g ∧ g < w.heap.size) (h : D.ownL w (fObject x) F vs) : ∃ A c, vs = [.int .i64 x.kind, .slice A x.links.length c, .string x.text] := by
  have hr := D.ownL.rd (fObject x) F vs hF h
  have hl := D.rdL.length hr
  obtain ⟨v0, e0, r0⟩ := hr.get (j := 0) (d := .int x.kind) rfl
  obtain ⟨v1, e1, r1⟩ := hr.get (j := 1) (d := intsD x.links) rfl
  obtain ⟨v2, e2, r2⟩ := hr.get (j := 2) (d := .str x.text) rfl
  have h0 := r0.int_inv
  have h2 := r2.str_inv.1
  obtain ⟨A, c, h1, -⟩ := D.rd.arr_inv r1
  subst h0 h1 h2
  refine ⟨A, c, ?_⟩
  match vs, hl with
  | [a, b, d], _ =>
    simp at e0 e1 e2
    rw [e0, e1, e2]
  | [], hl => simp [fObject] at hl
  | [_], hl => simp [fObject] at hl
  | [_, _], hl => simp [fObject] at hl
  | _ :: _ :: _ :: _ :: _, hl => simp [fObject] at hl

/-- an object that is handed back by value, its links in memory of their own -/
def ObjRo (w : World) (x : ObjD) (e : Ending) (w' : World) : Prop :=
  ∃ A c, OwnL w' w.heap.size (fObject x) [.int .i64 x.kind, .slice A x.links.length c, .string x.text] ∧ Below w.heap.size w w' ∧ e = .returned (.tuple #[.agg #[.int .i64 x.kind, .slice A x.links.length c, .string x.text], .bool true])
set_option maxRecDepth 100000 in
set_option maxHeartbeats 3200000 in
theorem getOo_any (os : List ObjD) (x : ObjD) (A : Option Addr) (n c : Nat) (w : World) (lo hi : Nat) (hh : hi ≤ w.heap.size) (hs : storeB os = true) (hx : x ∈ os) (h : D.rd w lo hi (dObjects os) (.slice A n c)) :
    Calls Tryz.prog 30 #[.slice A n c, .int .i64 (idB x)] w fun e w' => ObjRo w x e w' := by
  obtain ⟨s1, s2, s3⟩ := (storeB_iff _).1 hs
  have hbd := idB_bd (s1 x hx)
  obtain ⟨id, hid⟩ : ∃ id, idB x = id := ⟨_, rfl⟩
  rw [hid] at hbd
  have hbd0 := hbd.1
  have hbd1 := hbd.2
  have HIR : Hid (inR id 0 990 = true) := Lib.hid ((inR_iff _ _ _).2 ⟨hbd0, hbd1⟩)
  have hfb : fndB os id = true := by
    rcases hf : fndB os id with _ | _
    · exact absurd hid (fndB_not s2 hf x hx)
    · rfl
  obtain ⟨hpl, hpe⟩ := (fndB_iff _ _).1 hfb
  obtain ⟨k, hk⟩ : ∃ k, plc os id = k := ⟨_, rfl⟩
  have hkl : k < os.length := by omega
  have hxk : os[k] = x := by
    have h1 := getO_mem s2 hx
    have h2 := getO_mem s2 (List.getElem_mem hpl)
    rw [hpe] at h2
    rw [hid, h2] at h1
    injection h1 with h1
    subst hk; exact h1
  have hn := h.len.1
  have hn16 : n ≤ 16 := by omega
  have hkn : k < n := by omega
  have hc63 := h.len.2.2
  have hnc : n ≤ c := by have := h.len; omega
  obtain ⟨rp, hrp⟩ : ∃ rp, rp = w.heap.size := ⟨_, rfl⟩
  obtain ⟨w1, hw1⟩ : ∃ w1, w1 = w.alloc (.cells #[.int .i64 0, .slice none 0 0, .string ⟨#[]⟩] 52) := ⟨_, rfl⟩
  have hb1 : Below w.heap.size w w1 := by rw [hw1]; exact (Below.refl _ _).alloc (Nat.le_refl _) _
  have hx1 : w1.heap[rp]? = some (.cells #[.int .i64 0, .slice none 0 0, .string ⟨#[]⟩] 52 (0, 0)) := by rw [hw1, hrp]; exact heap_alloc_new w _
  have HB1 := Lib.hid hb1
  have HX1 := Lib.hid hx1
  have HI1 := Lib.hid (h.below hb1 hh)
  have hh1 : hi ≤ w1.heap.size := Nat.le_trans hh hb1.size
  have hrw : w.heap.size ≤ rp := by omega
  have hww1 := hb1.size
  have HS := Lib.hid hs
  have HV : Hid (∀ o ∈ os, objB o = true) := Lib.hid s1
  have HA := Lib.hid s2
  have HK := Lib.hid hk
  have HXK := Lib.hid hxk
  have HF := Lib.hid hfb
  rw [hid]
  clear h hs hx s1 s2 s3 hid hbd hfb hpl hpe hk hxk hb1 hx1 hn
  go_enter Tryz.func30, Tryz.ntmps30
  go_upto_region 1 with (fail)
  rw [← hw1, ← hrp]
  clear hw1 hrp
  go_wp2_with fail
  refine (implStoreValid_any os A n c w1 lo hi hh1 HI1.out).mono ?_
  rintro e w2 ⟨rfl, hb2⟩
  have HB2 := Lib.hid (bel_tr HB1.out (Nat.le_refl _) hb2)
  have HX2 := Lib.hid ((hb2.block rp (hltS HX1.out)).trans HX1.out)
  have HI2 := Lib.hid (HI1.out.below hb2 hh1)
  have hh2 : hi ≤ w2.heap.size := Nat.le_trans hh1 hb2.size
  have hw12 := hb2.size
  clear hb2
  rw [HS.out]
  go_wp2_with (go_at_call 58; refine (isId_any _ _).mono ?_; rintro e w' ⟨rfl, rfl⟩; rw [HIR.out])
  refine (findO_any os A n c id w2 lo hi hh2 (by omega) HV.out HA.out hbd0 hbd1 HI2.out).mono ?_
  rintro e w3 ⟨rfl, hb3⟩
  have HB3 := Lib.hid (bel_tr HB2.out (Nat.le_refl _) hb3)
  have HX3 := Lib.hid ((hb3.block rp (hltS HX2.out)).trans HX2.out)
  have HI3 := Lib.hid (HI2.out.below hb3 hh2)
  have hh3 : hi ≤ w3.heap.size := Nat.le_trans hh2 hb3.size
  have hw23 := hb3.size
  clear hb3
  rw [HK.out, HF.out]
  obtain ⟨b, o, hl, A1, n1, c1, rfl, _, hbh, -⟩ := rd_Object HI3.out hkn
  have HR3 := Lib.hid (rd_oneO HI3.out hkl (c - k) (by omega) (by omega))
  clear hl
  have hck : ¬ (c = k) := by omega
  go_wp2_with fail
  refine (copyObjs_row [os[k]] (some ⟨b, o + k * 3, none⟩) 1 (c - k) w3 lo hi hh3 (by omega) (fun q hq => by
    rw [List.mem_singleton] at hq
    have := (objB_and (HV.out _ (List.getElem_mem hkl))).2.1
    subst hq; omega) HR3.out).mono ?_
  rintro e w4 ⟨C, dc, hg4, hb4, rfl⟩
  have HB4 := Lib.hid (bel_tr HB3.out (Nat.le_refl _) hb4)
  have HX4 := Lib.hid ((hb4.block rp (hltS HX3.out)).trans HX3.out)
  have hw34 := hb4.size
  obtain ⟨vs, F, g1, g2, g3, g4, -⟩ := hg4
  have g2' : D.ownL w4 (fObject x) F vs := by rw [← HXK.out]; simpa using g2
  obtain ⟨A4, c4, hvs⟩ := ownL_objV g4 g2'
  rw [hvs] at g1 g2'
  obtain ⟨b4, rfl, hb41, hb42⟩ := own_row_at g1 (by omega)
  have hc0 := g1.cellAt 0 (by omega)
  have hc1 := g1.cellAt 1 (by omega)
  have hc2 := g1.cellAt 2 (by omega)
  simp only [List.getElem?_cons_zero, List.getElem?_cons_succ] at hc0 hc1 hc2
  have HP4 : Hid (OwnL w4 w3.heap.size (fObject x) [.int .i64 x.kind, .slice A4 x.links.length c4, .string x.text]) := Lib.hid ⟨F, g3, g4, g2'⟩
  have HLT : Hid (rp < w3.heap.size) := Lib.hid (hltS HX3.out)
  have hne4 : ¬ (b4 = rp) := by have := hltS HX3.out; omega
  have hne4' : ¬ (rp = b4) := fun e => hne4 e.symm
  obtain ⟨z0, z1, z2, zf, lz⟩ := box_cells HX4.out
  have zf0 : w4.frozen? ⟨rp, 0, none⟩ = false := frozen_of_row _ _ _ _ _ HX4.out
  have zf2 : w4.frozen? ⟨rp, 2, none⟩ = false := frozen_of_row _ _ _ _ _ HX4.out
  obtain ⟨kind, hkd⟩ : ∃ kind, kind = x.kind := ⟨_, rfl⟩
  obtain ⟨text, htx⟩ : ∃ text, text = x.text := ⟨_, rfl⟩
  obtain ⟨ln, hln⟩ : ∃ ln, ln = x.links.length := ⟨_, rfl⟩
  rw [← hkd] at hc0
  rw [← htx] at hc2
  rw [← hln] at hc1
  rw [← hkd, ← htx, ← hln] at HP4
  have HKD := Lib.hid hkd
  have HTX := Lib.hid htx
  have HLN := Lib.hid hln
  clear hb4 g1 g2 g3 g4 g2' hkd htx hln hvs
  go_wp2_with fail
  refine bodyPost_ret (v := .tuple #[.agg #[.int .i64 kind, .slice A4 ln c4, .string text], .bool true]) (by simp [results, Tryz.results30, go_sem, z0, z1, z2, zf, zf0, zf2]) rfl ?_
  refine ⟨A4, c4, ?_, ((HB4.out.setCell hrw _).setCell hrw _).setCell hrw _, by rw [← HKD.out, ← HTX.out, ← HLN.out]⟩
  rw [← HKD.out, ← HTX.out, ← HLN.out]
  exact (((HP4.out.set HLT.out 0 _).set HLT.out 1 _).set HLT.out 2 _).low (show w.heap.size ≤ w3.heap.size by omega)

theorem needO_take {os : List ObjD} {ws hs : List Int} {k : Nat} {x : ObjD} (h : (needO os ws hs)[k]? = some x) : (needO os ws hs).take (k + 1) = (needO os ws hs).take k ++ [x] := by
  obtain ⟨hk, e⟩ := List.getElem?_eq_some_iff.1 h
  rw [List.take_succ_eq_append_getElem hk, e]

set_option maxRecDepth 100000 in
set_option maxHeartbeats 3200000 in
theorem implFPack_any (os : List ObjD) (ws hs : List Int) (A : Option Addr) (n c : Nat) (F : Option Addr) (m d : Nat) (G : Option Addr) (k e9 : Nat) (mx : Int) (w : World) (lo hi : Nat) (hh : hi ≤ w.heap.size) (hm : m ≤ 9223372036854775807) (hk : k ≤ 9223372036854775807) (hmx : w.cell? ⟨0, 0, none⟩ = some (.int .i64 mx)) (h : D.rd w lo hi (dObjects os) (.slice A n c)) (hf : Ints w lo hi F m ws) (hg : Ints w lo hi G k hs) :
    Calls Tryz.prog 9 #[.slice A n c, .slice F m d, .slice G k e9] w fun e w' => ∃ B q, Own w' w.heap.size (dPackEntrys (fpackL os ws hs)) (.slice B (fpackL os ws hs).length q) ∧ Below w.heap.size w w' ∧ e = .returned (.tuple #[.slice B (fpackL os ws hs).length q, .bool (okF os ws hs)]) := by
  have HI := Lib.hid h
  have HF := Lib.hid hf
  have HG := Lib.hid hg
  have hgw : 0 < w.heap.size := World.block_lt_of_cell? _ _ hmx
  have HMX := Lib.hid hmx
  clear h hf hg hmx
  go_enter Tryz.func9, Tryz.ntmps9
  go_wp2_with fail
  refine (implFetch_any os ws hs A n c F m d G k e9 w lo hi hh hm hk HI.out HF.out HG.out).mono ?_
  rintro e w1 ⟨v1, hown1, hb1, rfl⟩
  have HB1 := Lib.hid hb1
  have hs1 := hb1.size
  rcases hok : okF os ws hs with _ | _
  · have HNO := Lib.hid (fpackL_no hok)
    have HNK := Lib.hid hok
    rw [hok, if_neg (by simp)] at hown1
    obtain ⟨A1, c1, rfl, -⟩ := Rd.of_own hown1
    clear hok hown1 hb1
    go_wp2_with fail
    go_ret2
    rw [HNO.out]
    exact ⟨none, 0, own_nilD _ _ _ _ _ (by omega), HB1.out, by rw [HNK.out]; rfl⟩
  rw [hok, if_pos rfl] at hown1
  have HOK := Lib.hid hok
  have HSV := Lib.hid (fromB_and (okF_and hok).1).1
  obtain ⟨ys, hys⟩ : ∃ z, z = needL (getO os) ws hs := ⟨_, rfl⟩
  have hyl : ys.length ≤ 16 := by rw [hys]; exact needL_len16 hok
  have HAT : Hid (∀ k (hk : k < ys.length), ∃ o, getO os ys[k] = some o ∧ o ∈ os ∧ idB o = ys[k] ∧ (needO os ws hs)[k]? = some o) := Lib.hid (by rw [hys]; exact fun k hk => needO_at hok hk)
  have HLEN : Hid ((needO os ws hs).length = ys.length) := Lib.hid (by rw [hys]; exact needO_len os ws hs)
  have HOB := Lib.hid (needO_obj hok)
  have HYES := Lib.hid (fpackL_yes hok)
  rw [← hys] at hown1
  obtain ⟨A1, c1, rfl, -, -, hrd1⟩ := Rd.of_own hown1
  obtain ⟨l, hl⟩ : ∃ z, z = ys.length := ⟨_, rfl⟩
  have HL := Lib.hid hl
  rw [← hl] at hyl
  rw [← hl]
  have HY1 : Hid (Ints w1 w.heap.size w1.heap.size A1 l ys) := Lib.hid ⟨hl.symm, hrd1⟩
  clear hown1 hb1 hok hrd1 hys hl
  go_wp2_with fail
  go_loopw [10, 26] (fun v i wr => ∃ (j : Nat), j ≤ l ∧ i = .int .i64 j ∧ Hid (Grow wr w1.heap.size 52 3 v j (((needO os ws hs).take j).flatMap fObject)) ∧ Hid (Below w1.heap.size w1 wr)) (fun _ i _ => l - (intOf i).toNat)
  case atStart => exact ⟨0, Nat.zero_le _, rfl, Lib.hid (Grow.nil (World.ownsRow_nil _ _ _ 3)), Lib.hid (Below.refl _ _)⟩
  case round =>
    obtain ⟨j, hj, rfl, HGR, HB⟩ := hrel
    obtain ⟨w2, hw2⟩ : ∃ z, z = wr := ⟨_, rfl⟩
    subst hw2
    have hs2 := HB.out.size
    obtain ⟨B6, d6, rfl, hd61, hd62, -⟩ := HGR.out.own.rd.arr_inv
    by_cases hlt : j < l
    · obtain ⟨b, o, hl, rfl, _, hbh, hc⟩ := (HY1.out.below HB.out (Nat.le_refl _)).int hlt
      have hbl : b < w2.heap.size := by omega
      obtain ⟨x, -, hx2, hx3, hx4⟩ := HAT.out j hl
      rw [← hx3] at hc
      have HX4 := Lib.hid hx4
      clear hx3 hx4
      go_wp2_with fail
      refine (getOo_any os x A n c w2 lo hi (by omega) HSV.out hx2 (HI.out.below (bel_tr HB1.out (Nat.le_refl _) HB.out) hh)).mono ?_
      rintro e w3 ⟨A3, c3, hp3, hb3, rfl⟩
      have HGP := Lib.hid ((GrowP.mk_ HGR.out hb3 hp3 hs2).alloc (.cells #[.int .i64 x.kind, .slice A3 x.links.length c3, .string x.text] 52))
      have HB3 := Lib.hid (bel_tr HB.out (Nat.le_refl _) hb3)
      have hs3 := hb3.size
      clear hp3 hb3 hx2
      obtain ⟨vs, F3, G3, hov, hrest⟩ := HGP.out
      have HOV := Lib.hid hov
      have HFG := Lib.hid (⟨F3, G3, hov, hrest⟩ : ∃ F G, (w3.alloc (.cells #[.int .i64 x.kind, .slice A3 x.links.length c3, .string x.text] 52)).ownsRow w1.heap.size 52 3 (.slice B6 j d6) j vs ∧ D.ownL (w3.alloc (.cells #[.int .i64 x.kind, .slice A3 x.links.length c3, .string x.text] 52)) (((needO os ws hs).take j).flatMap fObject) F vs ∧ D.ownL (w3.alloc (.cells #[.int .i64 x.kind, .slice A3 x.links.length c3, .string x.text] 52)) (fObject x) G [.int .i64 x.kind, .slice A3 x.links.length c3, .string x.text] ∧ (F ++ G).Nodup ∧ (∀ g ∈ F ++ G, w1.heap.size ≤ g ∧ g < (w3.alloc (.cells #[.int .i64 x.kind, .slice A3 x.links.length c3, .string x.text] 52)).heap.size) ∧ ∀ g, (Value.slice B6 j d6).ownBlock = some g → g ∉ F ++ G)
      clear hov hrest
      go_wp2_with (at_builtin; go_must (refine wpList_app_at Tryz.elObj (m := 1) (news := [.int .i64 x.kind, .slice A3 x.links.length c3, .string x.text]) (HOV.out.alloc _) (rd_newn (by simp) [.int .i64 x.kind, .slice A3 x.links.length c3, .string x.text] 52) rfl (by simp [Value.oneCell']) (by unfold maxLen; omega) (by omega) (by simp; omega) rfl rfl rfl rfl ?_); intro v7 w7 hown7 hg7 hat7; go_must (have HGR7 := Lib.hid (GrowP.done HFG.out hown7 hg7 hat7)); go_must (have HB7 := Lib.hid (below_app ((HB3.out.alloc (by omega) _).alloc (by simp; omega) _) (Nat.le_refl _) (by simp; omega) (HOV.out.alloc _) hg7)); clear hown7 hg7 hat7)
      go_roundw
      case rel => exact ⟨j + 1, by omega, by go_num, Lib.hid (by rw [needO_take HX4.out, List.flatMap_append]; simpa using HGR7.out), HB7⟩
      case measure => simp [intOf]; omega
    · have hjl : j = l := by omega
      subst hjl
      have HRD : Hid (D.rd w2 w1.heap.size w2.heap.size (dObjects (needO os ws hs)) (.slice B6 j d6)) := Lib.hid (by
        have h1 := HGR.out.own.rd
        rw [List.take_of_length_le (by rw [HLEN.out, ← HL.out]; exact Nat.le_refl _)] at h1
        unfold dObjects
        rw [HLEN.out, ← HL.out]
        exact h1)
      have HM2 : Hid (w2.cell? ⟨0, 0, none⟩ = some (.int .i64 mx)) := Lib.hid (((bel_tr HB1.out (Nat.le_refl _) HB.out).cell hgw).trans HMX.out)
      go_wp2_with fail
      refine (implMk_any (needO os ws hs) B6 j d6 mx w2 w1.heap.size w2.heap.size (Nat.le_refl _) hyl HOB.out HM2.out HRD.out).mono ?_
      rintro e w3 ⟨B, q, ho3, hb3, rfl⟩
      have HO3 := Lib.hid (ho3.low (lo' := w.heap.size) (by omega))
      have HB3 := Lib.hid (bel_tr HB1.out (Nat.le_refl _) (bel_tr HB.out (Nat.le_refl _) hb3))
      clear ho3 hb3
      go_wp2_with fail
      go_ret2
      rw [HYES.out]
      exact ⟨B, q, HO3.out, HB3.out, by rw [HOK.out]; rfl⟩

theorem rdL_objF {w : World} {lo hi n c : Nat} {A : Option Addr} {x : ObjD} (h : D.rd w lo hi (intsD x.links) (.slice A n c)) (ht : x.text.size ≤ 9223372036854775807) : D.rdL w lo hi (fObject x) [.int .i64 x.kind, .slice A n c, .string x.text] := by
  unfold fObject D.rdL
  refine ⟨_, _, rfl, by unfold D.rd; rfl, ?_⟩
  unfold D.rdL
  refine ⟨_, _, rfl, h, ?_⟩
  unfold D.rdL
  refine ⟨_, _, rfl, by unfold D.rd; exact ⟨rfl, ht⟩, ?_⟩
  unfold D.rdL; rfl
theorem rd_mix {w w1 : World} {base n c lo hi : Nat} {E : TypeId} {A : Option Addr} {xs : List ObjD} {vs : List Value} (ho : w.ownsRow base E 3 (.slice A n c) n vs) (hr : D.rdL w1 lo hi (xs.flatMap fObject) vs) (hb : Below w1.heap.size w1 w) (hh : hi ≤ w1.heap.size) (hl : xs.length = n) : D.rd w 0 w.heap.size (dObjects xs) (.slice A n c) := by
  obtain ⟨A', c', e, h1, h2, h3⟩ := Rd.of_own ho
  injection e with e1 e2 e3
  subst e1 e3
  unfold maxLen at h2
  unfold dObjects
  rw [hl]
  unfold D.rd
  refine ⟨A, c, vs, rfl, h1, h2, by rw [flat_lenG fObject 3 fObject_len, hl], h3.more (Nat.zero_le _) (Nat.le_refl _), ?_⟩
  exact D.rdL.keep (fun q _ hq => hb.cell (Nat.lt_of_lt_of_le hq hh)) (Nat.zero_le _) (Nat.le_trans hh hb.size) _ _ hr
theorem fp_step {w1 w2 w3 w5 w7 : World} {j l d6 : Nat} {B6 A3 : Option Addr} {ys : List Int} {vs us : List Value} {v7 : Value} {ob : Obj} (ho : w5.ownsRow w1.heap.size 52 3 (.slice B6 j d6) j vs) (hy : Ints w5 w2.heap.size w3.heap.size A3 l ys) (hne : ∀ g, (Value.slice B6 j d6).ownBlock = some g → g < w2.heap.size ∨ w3.heap.size ≤ g) (hb : Below w1.heap.size w1 w5) (h3 : w3.heap.size ≤ w5.heap.size) (h13 : w1.heap.size ≤ w3.heap.size)
    (_hown : w7.ownsRow w1.heap.size 52 3 v7 (j + 1) (vs ++ us)) (hg : (w5.alloc ob).grownBy w7 (Value.slice B6 j d6).ownBlock) (hat : v7.ownBlock = (Value.slice B6 j d6).ownBlock ∨ v7.ownBlock = some (w5.alloc ob).heap.size) :
    Ints w7 w2.heap.size w3.heap.size A3 l ys ∧ (∀ g, v7.ownBlock = some g → g < w2.heap.size ∨ w3.heap.size ≤ g) ∧ Below w1.heap.size w1 w7 ∧ w3.heap.size ≤ w7.heap.size := by
  have hs : (w5.alloc ob).heap.size = w5.heap.size + 1 := by simp
  have hgs := hg.size
  refine ⟨(hy.grownR (World.grownBy_alloc w5 ob none) h3 (fun g hg => by cases hg)).grownR hg (by omega) hne, fun g hg' => ?_, (hb.alloc (by omega) ob).grown hg (by omega) (fun q e => (ho.lt q e).1), by omega⟩
  rcases hat with e | e
  · rw [e] at hg'; exact hne g hg'
  · rw [e] at hg'; injection hg' with hg'; right; omega
set_option maxRecDepth 100000 in
set_option maxHeartbeats 3200000 in
theorem specFPack_any (os : List ObjD) (ws hs : List Int) (A : Option Addr) (n c : Nat) (F : Option Addr) (m d : Nat) (G : Option Addr) (k e9 : Nat) (w : World) (lo hi : Nat) (hh : hi ≤ w.heap.size) (hm : m ≤ 9223372036854775807) (hk : k ≤ 9223372036854775807) (h : D.rd w lo hi (dObjects os) (.slice A n c)) (hf : Ints w lo hi F m ws) (hg : Ints w lo hi G k hs) :
    Calls Tryz.prog 6 #[.slice A n c, .slice F m d, .slice G k e9] w fun e w' => ∃ B q, Own w' w.heap.size (dPackEntrys (fpackL os ws hs)) (.slice B (fpackL os ws hs).length q) ∧ Below w.heap.size w w' ∧ e = .returned (.tuple #[.slice B (fpackL os ws hs).length q, .bool (okF os ws hs)]) := by
  have HI := Lib.hid h
  have HF := Lib.hid hf
  have HG := Lib.hid hg
  clear h hf hg
  go_enter Tryz.func6, Tryz.ntmps6
  go_wp2_with fail
  refine (l32Ok_any os ws hs A n c F m d G k e9 w lo hi hh hm hk HI.out HF.out HG.out).mono ?_
  rintro e w1 ⟨rfl, hb1⟩
  have HB1 := Lib.hid hb1
  have hh1 : hi ≤ w1.heap.size := Nat.le_trans hh hb1.size
  have hs1 := hb1.size
  have HI1 := Lib.hid (HI.out.below hb1 hh)
  clear hb1
  rcases hok : okF os ws hs with _ | _
  · have HNO := Lib.hid (fpackL_no hok)
    have HNK := Lib.hid hok
    clear hok
    go_wp2_with fail
    go_ret2
    rw [HNO.out]
    exact ⟨_, 0, own_nilD _ _ _ _ _ (by omega), HB1.out.alloc hs1 _, by rw [HNK.out]; rfl⟩
  have HOK := Lib.hid hok
  obtain ⟨f1, f2, f3⟩ := okF_and hok
  obtain ⟨s1, s2, s3⟩ := fromB_and f1
  obtain ⟨t1, t2, t3⟩ := fromB_and f2
  have HO := Lib.hid ((storeB_iff _).1 s1).1
  have HD := Lib.hid (idsB_nodup s2)
  have HR0 := Lib.hid (idsB_mem s2)
  have HD2 := Lib.hid (idsB_nodup t2)
  have HR2 := Lib.hid (idsB_mem t2)
  have HATK : Hid (∀ k (hk : k < (needL (getO os) ws hs).length), ∃ o, getO os (needL (getO os) ws hs)[k] = some o ∧ (needO os ws hs)[k]? = some o) := Lib.hid fun k hk => by
    obtain ⟨o, h1, -, -, h4⟩ := needO_at hok hk
    exact ⟨o, h1, h4⟩
  have hyl16 := needL_len16 hok
  have HOB := Lib.hid (needO_obj hok)
  have HYES := Lib.hid (fpackL_yes hok)
  have HLEN := Lib.hid (needO_len os ws hs)
  clear hok f1 f2 f3 s1 s2 s3 t1 t2 t3
  obtain ⟨e0, he0⟩ : ∃ z, z = w1.heap.size := ⟨_, rfl⟩
  obtain ⟨w2, hw2⟩ : ∃ z, z = w1.alloc (.cells #[] 52) := ⟨_, rfl⟩
  have hb2 : Below w1.heap.size w1 w2 := by rw [hw2]; exact (Below.refl _ _).alloc (Nat.le_refl _) _
  have HN2 : Hid (w2.ownsRow w1.heap.size 52 3 (.slice (some ⟨e0, 0, none⟩) 0 0) 0 []) := by rw [hw2, he0]; exact Lib.hid (own_nil_lit w1 52 3)
  have HB2 := Lib.hid (bel_tr HB1.out (Nat.le_refl _) hb2)
  have HI2 := Lib.hid (HI1.out.below hb2 hh1)
  have HF2 := Lib.hid (HF.out.below HB2.out hh)
  have HG2 := Lib.hid (HG.out.below HB2.out hh)
  have hs2 := hb2.size
  have hh2 : hi ≤ w2.heap.size := Nat.le_trans hh1 hs2
  have HB12 := Lib.hid hb2
  clear hb2
  go_upto_region 4 with (fail)
  rw [← hw2, ← he0]
  clear hw2
  go_wp2_with fail
  refine (l32Need_any os ws A n c hs F m d G k e9 w2 lo hi lo hi hh2 hh2 HO.out HD.out HR0.out HD2.out HR2.out HG2.out HI2.out HF2.out).mono ?_
  rintro e w3 ⟨v3, hown3, hb3, rfl⟩
  obtain ⟨ys, hys⟩ : ∃ z, z = needL (getO os) ws hs := ⟨_, rfl⟩
  rw [← hys] at hown3 HATK hyl16 HLEN
  obtain ⟨A3, c3, rfl, -, -, hrd3⟩ := Rd.of_own hown3
  have HAT := HATK
  clear HATK
  obtain ⟨l, hl⟩ : ∃ z, z = ys.length := ⟨_, rfl⟩
  have HL := Lib.hid hl
  rw [← hl] at hyl16
  rw [← hl]
  have HY3 : Hid (Ints w3 w2.heap.size w3.heap.size A3 l ys) := Lib.hid ⟨hl.symm, hrd3⟩
  have HB3 := Lib.hid (bel_tr HB2.out (Nat.le_refl _) hb3)
  have HI3 := Lib.hid (HI2.out.below hb3 hh2)
  have HN3 := Lib.hid (own_below HN2.out hb3)
  have HB13 := Lib.hid (bel_tr HB12.out (Nat.le_refl _) hb3)
  have hs3 := hb3.size
  clear hown3 hb3 hrd3 hys hl he0
  go_wp2_with fail
  have h1w : w1.heap.size ≤ w3.heap.size := by omega
  have hi1 : hi ≤ w1.heap.size := hh1
  go_loopw [8, 10] (fun v i wr => ∃ (j : Nat) (vs : List Value), j ≤ l ∧ i = .int .i64 j ∧ Hid (wr.ownsRow w1.heap.size 52 3 v j vs) ∧ Hid (D.rdL w1 lo hi (((needO os ws hs).take j).flatMap fObject) vs) ∧ Hid (Ints wr w2.heap.size w3.heap.size A3 l ys) ∧ Hid (∀ g, v.ownBlock = some g → g < w2.heap.size ∨ w3.heap.size ≤ g) ∧ Hid (Below w1.heap.size w1 wr) ∧ w3.heap.size ≤ wr.heap.size) (fun _ i _ => l - (intOf i).toNat)
  case atStart => exact ⟨0, [], Nat.zero_le _, rfl, HN3, Lib.hid (by rw [List.take_zero, List.flatMap_nil]; unfold D.rdL; rfl), HY3, Lib.hid (fun g hg => .inl ((HN2.out.lt g hg).2)), HB13, Nat.le_refl _⟩
  case round =>
    obtain ⟨j, vs, hj, rfl, HO9, HRL, HY, HNE, HB, hw3⟩ := hrel
    obtain ⟨w4, hw4⟩ : ∃ z, z = wr := ⟨_, rfl⟩
    subst hw4
    obtain ⟨B6, d6, rfl, hd61, hd62, -⟩ := Rd.of_own HO9.out
    unfold maxLen at hd62
    by_cases hlt : j < l
    · obtain ⟨b, o, hl, rfl, _, hbh, hc⟩ := HY.out.int hlt
      have hbl : b < w4.heap.size := by omega
      obtain ⟨x, hx1, hx4⟩ := HAT.out j hl
      have HX4 := Lib.hid hx4
      obtain ⟨id, hid⟩ : ∃ z, z = ys[j] := ⟨_, rfl⟩
      rw [← hid] at hc hx1
      have HX1 := Lib.hid hx1
      clear hx1 hx4 hid
      go_wp2_with fail
      refine (l1Get_any os id A n c w4 lo hi (by omega) HO.out (HI1.out.below HB.out hh1)).mono ?_
      rintro e w5 ⟨r, hr, hb5, rfl⟩
      have HB5 := Lib.hid (bel_tr HB.out (Nat.le_refl _) hb5)
      have HO5 := Lib.hid (own_below HO9.out hb5)
      have HY5 := Lib.hid (HY.out.below hb5 hw3)
      have hs5 := hb5.size
      clear hb5
      rcases hr with ⟨-, hr⟩ | ⟨p, hp, rfl, hr⟩
      · rw [HX1.out] at hr; cases hr
      have hpx : os[p] = x := by rw [HX1.out] at hr; injection hr with hr; exact hr.symm
      obtain ⟨b2, o2, hl2, A4, n4, c4, rfl, -, hb2h, k0, k1, k2, ⟨hn4, hm4, hr4⟩, ht4⟩ := rd_Object HI1.out (k := p) (by have := HI1.out.len.1; omega)
      have hpn : p < n := by have := HI1.out.len.1; omega
      have q0 := (HB5.out.cell (p := ⟨b2, o2 + p * 3, none⟩) (Nat.lt_of_lt_of_le hb2h hh1)).trans k0
      have q1 := (HB5.out.cell (p := ⟨b2, o2 + p * 3 + 1, none⟩) (Nat.lt_of_lt_of_le hb2h hh1)).trans k1
      have q2 := (HB5.out.cell (p := ⟨b2, o2 + p * 3 + 2, none⟩) (Nat.lt_of_lt_of_le hb2h hh1)).trans k2
      rw [hpx] at q0 q2
      rw [hpx] at hr4 ht4
      have HRO := Lib.hid (rdL_objF hr4 ht4)
      have hl25 : b2 < w5.heap.size := by omega
      have hp0 : (0 : Int) ≤ (p : Int) := by omega
      clear hr hpx k0 k1 k2 hr4 hn4 hm4 ht4 hl2 hp
      go_wp2_with (at_builtin; go_must (refine wpList_app_at Tryz.elObj (m := 1) (news := [.int .i64 x.kind, .slice A4 n4 c4, .string x.text]) (HO5.out.alloc _) (rd_newn (n := w5.heap.size) rfl [.int .i64 x.kind, .slice A4 n4 c4, .string x.text] 52) rfl (by simp [Value.oneCell']) (by unfold maxLen; omega) (by omega) (by simp; omega) rfl rfl rfl rfl ?_); intro v7 w7 hown7 hg7 hat7; go_must (have HF7 := Lib.hid (fp_step HO5.out HY5.out HNE.out HB5.out (by omega) h1w hown7 hg7 hat7)); clear hg7 hat7; have HO7 := Lib.hid hown7; clear hown7)
      go_roundw
      case rel => exact ⟨j + 1, _, by omega, by go_num, HO7, Lib.hid (by rw [needO_take HX4.out, List.flatMap_append]; exact D.rdL.app HRL.out (by simpa using HRO.out)), Lib.hid HF7.out.1, Lib.hid HF7.out.2.1, Lib.hid HF7.out.2.2.1, HF7.out.2.2.2⟩
      case measure => simp [intOf]; omega
    · have hjl : j = l := by omega
      subst hjl
      have HRD : Hid (D.rd w4 0 w4.heap.size (dObjects (needO os ws hs)) (.slice B6 j d6)) := Lib.hid (by
        have h1 := HRL.out
        rw [List.take_of_length_le (by rw [HLEN.out, ← HL.out]; exact Nat.le_refl _)] at h1
        exact rd_mix HO9.out h1 HB.out hh1 (by rw [HLEN.out, ← HL.out]))
      go_wp2_with fail
      refine (specMk_any (needO os ws hs) B6 j d6 w4 0 w4.heap.size (Nat.le_refl _) hyl16 HOB.out HRD.out).mono ?_
      rintro e w5 ⟨B, q, ho3, hb3, rfl⟩
      have HO3 := Lib.hid (ho3.low (lo' := w.heap.size) (by omega))
      have HB3 := Lib.hid (bel_tr HB1.out (Nat.le_refl _) (bel_tr HB.out (Nat.le_refl _) hb3))
      clear ho3 hb3
      go_wp2_with fail
      go_ret2
      rw [HYES.out]
      exact ⟨B, q, HO3.out, HB3.out, by rw [HOK.out]; rfl⟩

end Go.Proofs.YtnaeglfochnikaaGreat
