/-
  The walk of the program's PackMake over valid objects: the pack that the plain law says, in new memory. Condition: few objects; the library's variable MaxLen holds some number.
-/
import Derived.Test.YtnaeglfochnikaaGreatZ14
import Derived.Test.YtnaeglfochnikaaGreatTObject
import Derived.Deep.RegionHeldLaw
namespace Go.Proofs.YtnaeglfochnikaaGreat
set_option linter.unusedVariables false
set_option linter.unusedSimpArgs false
open Go.RowKit

/-- an entry in a box, without a base, its parts in memory of their own -/
def EntBox (kind : Int) (links : List Int) (t : ByteArray) (nk : Nat) (w : World) (v : Value) (wx : World) : Prop :=
  ∃ (p : Nat) (B : Option Addr) (d : Nat) (C : Option Addr) (m c : Nat), v = .pointer (some ⟨p, 0, none⟩) ∧ wx.heap[p]? = some (.cells #[.int .i64 kind, .slice B nk d, .int .i64 (-1), .slice C m c] 60 (0, 0)) ∧ w.heap.size ≤ p ∧ Below w.heap.size w wx ∧
    wx.ownsRow w.heap.size 3 1 (.slice B nk d) nk (links.flatMap ci) ∧ wx.ownsRow w.heap.size 96 3 (.slice C m c) m ((makeB ⟨#[]⟩ t).flatMap co) ∧ m = (makeB ⟨#[]⟩ t).length

theorem bel_dr9 {W W' : World} {o : Obj} (h : Below (W.drew.alloc o).heap.size (W.drew.alloc o) W') : Below (W.alloc o).heap.size (W.alloc o) W' := ⟨h.os, h.tape, h.output, h.size, h.block⟩
theorem own_chg {w w' : World} {base n size : Nat} {e : TypeId} {v : Value} {cs : List Value} {F : List Nat} (ho : w.ownsRow base e size v n cs) (h : Chg w w' F) (h1 : ∀ g, v.ownBlock = some g → g ∉ F) : w'.ownsRow base e size v n cs := by
  refine ⟨ho.1, ?_⟩
  rcases ho.2 with h2 | ⟨g, cap, cur, h2, h3, h4, h5⟩
  · exact .inl h2
  · have hg : v.ownBlock = some g := by rw [h2]; rfl
    have hl := (ho.lt g hg).2
    exact .inr ⟨g, cap, cur, h2, h3, (h.2.2.2.2 g hl (h1 g hg)).trans h4, h5⟩
theorem chg_bel {w w4 w5 : World} {F : List Nat} {C : Nat} (hb : Below C w w4) (hc : Chg w4 w5 F) (hC : C ≤ w4.heap.size) (hF : ∀ g ∈ F, C ≤ g) : Below C w w5 :=
  hb.trans ⟨hc.1, hc.2.1, hc.2.2.1, hc.2.2.2.1, fun g hg => hc.2.2.2.2 g (by omega) (fun h => by have := hF g h; omega)⟩
theorem ownNeQ {v : Value} {row : Option Nat} (h : ∀ g, v.ownBlock = some g → row ≠ some g) : v.ownBlock = none ∨ v.ownBlock ≠ row := by
  rcases hv : v.ownBlock with _ | g
  · exact .inl rfl
  · exact .inr fun e => h g hv e.symm
theorem ownNeP {w : World} {p base n size : Nat} {e e' : TypeId} {cur : Array Value} {v : Value} {cs : List Value} (hx : w.heap[p]? = some (.cells cur e' (0, 0))) (ho : w.ownsRow base e size v n cs) (he : e ≠ e') : v.ownBlock ≠ some p := fun hv => by
  obtain ⟨c1, h1⟩ := own_blkP ho hv
  rw [hx] at h1; injection h1 with h1; injection h1 with _ h1 _; exact he h1.symm
/-- a node has been appended to the row of nodes -/
theorem mk_nodes {w w5 wA : World} {base k p8 p9 : Nat} {An Ao : Option Addr} {cn cq : Nat} {vA : Value} {gs : List Nat} {os : List ObjD} {es ds : List D} {us : List Value} {cur : Array Value} {r : Int} {t : ByteArray} (hU : GrowU w5 base (.slice Ao k cq) k es ds us) (hO : w5.ownsRow base 90 1 (.slice An k cn) k (gs.map fun g => .pointer (some ⟨g, 0, none⟩)))
    (hN : NodesM w5 base os gs) (h8 : w5.heap[p8]? = some (.cells cur 60 (0, 0))) (h9 : NodeM w5 (ptrOf gs r) t p9) (hB : Below base w w5) (hG : gs.length = k) (hT : (os.getD k zObjM).text = t) (hR : r = bstTo (mkTo os k) os t k) (hg9 : p9 ∉ gs) (hbs : base ≤ p9)
    (ho : wA.ownsRow base 90 1 vA (k + 1) ((gs.map fun g => .pointer (some ⟨g, 0, none⟩)) ++ [.pointer (some ⟨p9, 0, none⟩)])) (hg : (w5.alloc (.cells #[.pointer (some ⟨p9, 0, none⟩)] 90)).grownBy wA (Value.slice An k cn).ownBlock)
    (hat : vA.ownBlock = (Value.slice An k cn).ownBlock ∨ vA.ownBlock = some (w5.alloc (.cells #[.pointer (some ⟨p9, 0, none⟩)] 90)).heap.size) :
    GrowU wA base (.slice Ao k cq) k es ds us ∧ NodesM wA base os (gs ++ [p9]) ∧ wA.ownsRow base 90 1 vA (k + 1) ((gs.map fun g => .pointer (some ⟨g, 0, none⟩)) ++ [.pointer (some ⟨p9, 0, none⟩)]) ∧ wA.heap[p8]? = some (.cells cur 60 (0, 0)) ∧ Below base w wA := by
  subst hG hT hR
  have hs : base ≤ w5.heap.size := Nat.le_trans hbs (Nat.le_of_lt (hltM h9))
  have hkeep : ∀ g, g < w5.heap.size → (Value.slice An gs.length cn).ownBlock ≠ some g → wA.heap[g]? = w5.heap[g]? := fun g h1 h2 =>
    (hg.block g (by simp; omega) (fun e => h2 e.symm)).trans (Below.heap_alloc _ _ _ h1)
  refine ⟨(hU.alloc _).grown hg (fun g e => ?_), ?_, ho, (hkeep p8 (hltM h8) (ownNeP h8 hO (by decide))).trans h8, ?_⟩
  · obtain ⟨c1, h1⟩ := own_blkP (hO.alloc _) e
    exact ⟨c1, h1⟩
  · have h1 : NodesM wA base os gs := hN.keep fun g hg' => hkeep g (hN.lt g hg').2 (hN.ne_own hO (by decide) g hg')
    exact h1.add hbs hg9 (by
      unfold NodeM at h9 ⊢
      rw [hkeep p9 (hltM h9) (ownNeP h9 hO (by decide))]; exact h9)
  · exact (hB.alloc hs _).grown hg (by simp; omega) (fun q e => (hO.lt q e).1)
/-- an entry has been appended to the row of entries -/
theorem mk_entry {w wA wE : World} {base k : Nat} {Ao : Option Addr} {cq : Nat} {vA vE : Value} {gs : List Nat} {os : List ObjD} {es ds : List D} {us vs cs : List Value} {ob : Obj} (hF : ∃ F G, wA.ownsRow base 60 4 (.slice Ao k cq) k vs ∧ D.ownL wA es F vs ∧ D.ownL wA ds G us ∧ (F ++ G).Nodup ∧ (∀ g ∈ F ++ G, base ≤ g ∧ g < wA.heap.size) ∧ (∀ g, (Value.slice Ao k cq).ownBlock = some g → g ∉ F ++ G) ∧ TyF wA (F ++ G))
    (hV : wA.ownsRow base 60 4 (.slice Ao k cq) k vs) (hN : NodesM wA base os gs) (hO : wA.ownsRow base 90 1 vA (k + 1) cs) (hB : Below base w wA) (hs : base ≤ wA.heap.size)
    (ho : wE.ownsRow base 60 4 vE (k + 1) (vs ++ us)) (hg : (wA.alloc ob).grownBy wE (Value.slice Ao k cq).ownBlock) (hat : vE.ownBlock = (Value.slice Ao k cq).ownBlock ∨ vE.ownBlock = some (wA.alloc ob).heap.size) :
    NodesM wE base os gs ∧ wE.ownsRow base 90 1 vA (k + 1) cs ∧ GrowT wE base vE (k + 1) (es ++ ds) ∧ Below base w wE := by
  have hkeep : ∀ g, g < wA.heap.size → (Value.slice Ao k cq).ownBlock ≠ some g → wE.heap[g]? = wA.heap[g]? := fun g h1 h2 =>
    (hg.block g (by simp; omega) (fun e => h2 e.symm)).trans (Below.heap_alloc _ _ _ h1)
  refine ⟨hN.keep fun g hg' => hkeep g (hN.lt g hg').2 (hN.ne_own hV (by decide) g hg'), (hO.alloc ob).kept hg (ownNeQ fun q hq e => ?_), GrowU.done hF ho hg hat, (hB.alloc hs ob).grown hg (by simp; omega) (fun q e => (hV.lt q e).1)⟩
  obtain ⟨c1, h1⟩ := own_blkP hO hq
  obtain ⟨c2, h2⟩ := own_blkP hV e
  rw [h1] at h2; injection h2 with h2; injection h2 with _ h2 _; exact absurd h2 (by decide)
theorem EntBox.late {w w3 : World} {kind : Int} {links : List Int} {t : ByteArray} {nk d m c lo1 lo2 : Nat} {B C : Option Addr} (hb : Below w.heap.size w w3) (h1 : w3.ownsRow lo1 3 1 (.slice B nk d) nk (links.flatMap ci)) (h2 : w3.ownsRow lo2 96 3 (.slice C m c) m ((makeB ⟨#[]⟩ t).flatMap co)) (hm : m = (makeB ⟨#[]⟩ t).length) (hl1 : w.heap.size ≤ lo1) (hl2 : w.heap.size ≤ lo2) :
    EntBox kind links t nk w (.pointer (some ⟨w3.heap.size, 0, none⟩)) (w3.alloc (.cells #[.int .i64 kind, .slice B nk d, .int .i64 (-1), .slice C m c] 60)) :=
  ⟨w3.heap.size, B, d, C, m, c, rfl, heap_alloc_new w3 _, hb.size, hb.alloc hb.size _, (own_lowP h1 hl1).alloc _, (own_lowP h2 hl2).alloc _, hm⟩
theorem EntBox.early {w w3 : World} {kind : Int} {links : List Int} {t : ByteArray} {nk d m c p lo1 lo2 : Nat} {B C : Option Addr} {z : Array Value} (hb : Below w.heap.size w w3) (h1 : w3.ownsRow lo1 3 1 (.slice B nk d) nk (links.flatMap ci)) (h2 : w3.ownsRow lo2 96 3 (.slice C m c) m ((makeB ⟨#[]⟩ t).flatMap co)) (hm : m = (makeB ⟨#[]⟩ t).length) (hl1 : w.heap.size ≤ lo1) (hl2 : w.heap.size ≤ lo2)
    (hx : w3.heap[p]? = some (.cells z 60 (0, 0))) (hz : z = #[.int .i64 0, .slice none 0 0, .int .i64 0, .slice none 0 0]) (hp : w.heap.size ≤ p) :
    EntBox kind links t nk w (.pointer (some ⟨p, 0, none⟩)) ((((w3.setCell ⟨p, 0, none⟩ (.int .i64 kind)).setCell ⟨p, 1, none⟩ (.slice B nk d)).setCell ⟨p, 2, none⟩ (.int .i64 (-1))).setCell ⟨p, 3, none⟩ (.slice C m c)) := by
  subst hz
  have n1 := ownNeP hx h1 (by decide)
  have n2 := ownNeP hx h2 (by decide)
  refine ⟨p, B, d, C, m, c, rfl, ?_, hp, (((hb.setCell hp _).setCell hp _).setCell hp _).setCell hp _, ?_, ?_, hm⟩
  · rw [heap_setCell_same _ _ 3 _ _ _ (heap_setCell_same _ _ 2 _ _ _ (heap_setCell_same _ _ 1 _ _ _ (heap_setCell_same _ _ 0 _ _ _ hx)))]; rfl
  · exact ((((own_lowP h1 hl1).kept (set_grownL _ _ _ _) (.inr n1)).kept (set_grownL _ _ _ _) (.inr n1)).kept (set_grownL _ _ _ _) (.inr n1)).kept (set_grownL _ _ _ _) (.inr n1)
  · exact ((((own_lowP h2 hl2).kept (set_grownL _ _ _ _) (.inr n2)).kept (set_grownL _ _ _ _) (.inr n2)).kept (set_grownL _ _ _ _) (.inr n2)).kept (set_grownL _ _ _ _) (.inr n2)

set_option maxRecDepth 100000 in
set_option maxHeartbeats 6400000 in
theorem implMk_any (os : List ObjD) (A : Option Addr) (n c : Nat) (mx : Int) (w : World) (lo hi : Nat) (hh : hi ≤ w.heap.size) (hn : n ≤ 16) (ho : ∀ o ∈ os, objB o = true) (hmx : w.cell? ⟨0, 0, none⟩ = some (.int .i64 mx)) (h : D.rd w lo hi (dObjects os) (.slice A n c)) :
    Calls Tryz.prog 31 #[.slice A n c] w fun e w' => ∃ B d, Own w' w.heap.size (dPackEntrys (mkL os)) (.slice B (mkL os).length d) ∧ Below w.heap.size w w' ∧ e = .returned (.tuple #[.slice B (mkL os).length d, .bool true]) := by
  have HI := Lib.hid h
  have HV := Lib.hid ho
  have HN := Lib.hid h.len.1
  have hgw : 0 < w.heap.size := World.block_lt_of_cell? _ _ hmx
  have HMX := Lib.hid hmx
  have hn16 : (n : Int) ≤ 16 := by omega
  clear h ho hmx
  go_enter Tryz.func31, Tryz.ntmps31
  go_wp2_with fail
  refine (hasBad_any os A n c w lo hi hh (by omega) HV.out HI.out).mono ?_
  rintro e w0 ⟨rfl, hb0⟩
  have HB0 := Lib.hid hb0
  clear hb0
  go_wp2_with fail
  go_loopw [4, 5, 22] (fun vn vo i wr => ∃ (k : Nat) (gs : List Nat), k ≤ n ∧ i = .int .i64 k ∧ Hid (gs.length = k) ∧ Hid (NodesM wr w.heap.size os gs) ∧ Hid (wr.ownsRow w.heap.size 90 1 vn k (gs.map fun g => .pointer (some ⟨g, 0, none⟩))) ∧ Hid (GrowT wr w.heap.size vo k ((mkTo os k).flatMap fPackEntry)) ∧ Hid (Below w.heap.size w wr)) (fun _ _ i _ => n - (intOf i).toNat)
  case atStart => exact ⟨0, [], Nat.zero_le _, rfl, Lib.hid rfl, Lib.hid ⟨List.nodup_nil, fun i h => (by cases h)⟩, Lib.hid (World.ownsRow_nil _ _ _ 1), Lib.hid (GrowT.nil _ _), HB0⟩
  case round =>
    obtain ⟨k, gs, hk, rfl, HG, HND, HO, HGR, HB⟩ := hrel
    obtain ⟨wo, hwo⟩ : ∃ z, z = wr := ⟨_, rfl⟩
    subst hwo
    obtain ⟨An, cn, rfl, hcn1, hcn2, -⟩ := Rd.of_own HO.out
    obtain ⟨Ao, cq, rfl, hco1, hco2⟩ := HGR.out.shape
    have hws := HB.out.size
    unfold maxLen at hcn2
    by_cases hlt : k < n
    · obtain ⟨b, o, hl, A1, nk, c1, rfl, _, hbh, hc0, hc1, hc2, ⟨hn1, hm1, hr1⟩, ht2⟩ := rd_Object (HI.out.below HB.out hh) hlt
      have HVK := Lib.hid (HV.out _ (List.getElem_mem hl))
      obtain ⟨hob1, hob2, hob3, -⟩ := objB_and HVK.out
      have hnk : nk ≤ 4 := by have := hr1.ints.1; omega
      have HR1 := Lib.hid hr1
      obtain ⟨kd, hkd⟩ : ∃ z, z = os[k].kind := ⟨_, rfl⟩
      obtain ⟨ls, hls⟩ : ∃ z, z = os[k].links := ⟨_, rfl⟩
      obtain ⟨t, ht⟩ : ∃ z, z = os[k].text := ⟨_, rfl⟩
      have HKD := Lib.hid hkd
      have HLS := Lib.hid hls
      have HT := Lib.hid ht
      rw [← hkd] at hc0
      rw [← ht] at hc2 hob3 ht2
      rw [← hls] at HR1
      have hbl : b < wo.heap.size := by omega
      obtain ⟨w1, hw1⟩ : ∃ z, z = wo.alloc (.cells #[.int .i64 kd, .slice A1 nk c1, .string t] 52) := ⟨_, rfl⟩
      obtain ⟨p7, hp7⟩ : ∃ z, z = wo.heap.size := ⟨_, rfl⟩
      have hb1 : Below wo.heap.size wo w1 := by rw [hw1]; exact (Below.refl _ _).alloc (Nat.le_refl _) _
      have HX7 : Hid (w1.heap[p7]? = some (.cells #[.int .i64 kd, .slice A1 nk c1, .string t] 52 (0, 0))) := by rw [hw1, hp7]; exact Lib.hid (heap_alloc_new wo _)
      have HB1 := Lib.hid hb1
      have HR11 := Lib.hid (HR1.out.below hb1 (Nat.le_trans hh hws))
      have hs1 := hb1.size
      have HP7 := Lib.hid hp7
      clear hob1 hob2 hn1 hm1 hr1 hkd hls ht hb1
      go_upto_region 8 with (fail)
      rw [← hw1, ← hp7]
      clear hw1 hp7 hc0 hc1 hc2
      have k0 : w1.cell? ⟨p7, 0, none⟩ = some (.int .i64 kd) := cell_of_row _ _ 0 _ _ _ HX7.out
      have k1 : w1.cell? ⟨p7, 1, none⟩ = some (.slice A1 nk c1) := cell_of_row _ _ 1 _ _ _ HX7.out
      have k2 : w1.cell? ⟨p7, 2, none⟩ = some (.string t) := cell_of_row _ _ 2 _ _ _ HX7.out
      have hl7 : p7 < w1.heap.size := hltM HX7.out
      have hh1d : hi ≤ w1.drew.heap.size := Nat.le_trans (Nat.le_trans hh hws) hs1
      have hgw1 : 0 < w1.heap.size := Nat.lt_of_lt_of_le (Nat.lt_of_lt_of_le hgw hws) hs1
      have HM1 : Hid (w1.cell? ⟨0, 0, none⟩ = some (.int .i64 mx)) := Lib.hid (((bel_tr HB.out (Nat.le_refl _) HB1.out).cell hgw).trans HMX.out)
      have tok1 : True := trivial
      go_cut [8] (fun v wx => EntBox kd ls t nk w1 v wx)
      case first =>
        go_region_held_law (fun w' => w'.cell? ⟨p7, 0, none⟩ = some (.int .i64 kd) ∧ w'.cell? ⟨p7, 1, none⟩ = some (.slice A1 nk c1) ∧ w'.cell? ⟨p7, 2, none⟩ = some (.string t)) (go_keep)
          (first
            | (have _t := tok1; go_at_call 64; refine (cloneInt_row ls A1 nk c1 w1.drew lo hi hh1d (by omega) HR11.out.drew.ints).mono ?_; rintro e w2 ⟨B, d, hown2, hb2', rfl⟩; have hb2 : Below w1.heap.size w1 w2 := bel_dr hb2'; have q0 : w2.cell? ⟨p7, 0, none⟩ = some (.int .i64 kd) := (hb2.cell hl7).trans k0; have q1 : w2.cell? ⟨p7, 1, none⟩ = some (.slice A1 nk c1) := (hb2.cell hl7).trans k1; have q2 : w2.cell? ⟨p7, 2, none⟩ = some (.string t) := (hb2.cell hl7).trans k2; have hl27 : p7 < w2.heap.size := Nat.lt_of_lt_of_le hl7 hb2.size; have HO2 : Hid (w2.ownsRow w1.heap.size 3 1 (.slice B nk d) nk (ls.flatMap ci)) := Lib.hid hown2; have HB2 := Lib.hid hb2; have HM2 : Hid (w2.cell? ⟨0, 0, none⟩ = some (.int .i64 mx)) := Lib.hid ((hb2.cell hgw1).trans HM1.out); have hg2 : 0 < w2.heap.size := (by omega); have tokA : True := trivial; clear tok1 hown2 hb2' hb2)
            | (have _t := tok1; go_at_call 64; refine (cloneInt_row ls A1 nk c1 (w1.drew.alloc (.cells #[.int .i64 0, .slice none 0 0, .int .i64 0, .slice none 0 0] 60)) lo hi (by simp; omega) (by omega) (HR11.out.drew.ints.alloc hh1d _)).mono ?_; rintro e w2 ⟨B, d, hown2, hb2', rfl⟩; have hb2 : Below w1.heap.size w1 w2 := bel_al (W := w1) (bel_dr9 hb2'); have q0 : w2.cell? ⟨p7, 0, none⟩ = some (.int .i64 kd) := (hb2.cell hl7).trans k0; have q1 : w2.cell? ⟨p7, 1, none⟩ = some (.slice A1 nk c1) := (hb2.cell hl7).trans k1; have q2 : w2.cell? ⟨p7, 2, none⟩ = some (.string t) := (hb2.cell hl7).trans k2; have hl27 : p7 < w2.heap.size := Nat.lt_of_lt_of_le hl7 hb2.size; have HO2 : Hid (w2.ownsRow w1.heap.size 3 1 (.slice B nk d) nk (ls.flatMap ci)) := Lib.hid (own_lowP hown2 (by simp)); have HB2 := Lib.hid hb2; have hbx : w2.heap[w1.heap.size]? = _ := (hb2'.block w1.heap.size (by simp)).trans (heap_alloc_new w1.drew _); have HZ2 := Lib.hid hbx; have HM2 : Hid (w2.cell? ⟨0, 0, none⟩ = some (.int .i64 mx)) := Lib.hid ((hb2.cell hgw1).trans HM1.out); have hg2 : 0 < w2.heap.size := (by omega); have hlz : w1.heap.size < w2.heap.size := hltM hbx; have tokB : True := trivial; clear tok1 hown2 hb2' hb2 hbx)
            | (have _t := tokA; go_at_call 65; refine (implMake_any ⟨#[]⟩ t mx w2 (by decide) (by omega) hg2 HM2.out).mono ?_; rintro e w3 ⟨v3, hown3, hb3, rfl⟩; obtain ⟨C, cC, rfl, -⟩ := Rd.of_own hown3; have hb23 : Below w2.heap.size w2 w3 := hb3; have r0 : w3.cell? ⟨p7, 0, none⟩ = some (.int .i64 kd) := (hb23.cell hl27).trans q0; have r1 : w3.cell? ⟨p7, 1, none⟩ = some (.slice A1 nk c1) := (hb23.cell hl27).trans q1; have r2 : w3.cell? ⟨p7, 2, none⟩ = some (.string t) := (hb23.cell hl27).trans q2; have HBX := Lib.hid (EntBox.late (kind := kd) (links := ls) (t := t) (bel_tr HB2.out (Nat.le_refl _) hb3) (own_below HO2.out hb3) hown3 rfl (Nat.le_refl _) HB2.out.size); clear tokA hown3 hb3)
            | (have _t := tokA; go_at_call 65; refine (implMake_any ⟨#[]⟩ t mx (w2.alloc (.cells #[.int .i64 0, .slice none 0 0, .int .i64 0, .slice none 0 0] 60)) (by decide) (by omega) (by simp) ((World.cell?_alloc_lt w2 _ ⟨0, 0, none⟩ hg2).trans HM2.out)).mono ?_; rintro e w3 ⟨v3, hown3, hb3, rfl⟩; obtain ⟨C, cC, rfl, -⟩ := Rd.of_own hown3; have hb23 : Below w2.heap.size w2 w3 := bel_al hb3; have hbx : w3.heap[w2.heap.size]? = _ := (hb3.block w2.heap.size (by simp)).trans (heap_alloc_new w2 _); have fz0 := frozen_of_row w3 w2.heap.size 0 _ _ hbx; have fc0 := cell_of_row w3 w2.heap.size 0 _ _ _ hbx; have fz1 := frozen_of_row w3 w2.heap.size 1 _ _ hbx; have fc1 := cell_of_row w3 w2.heap.size 1 _ _ _ hbx; have fz2 := frozen_of_row w3 w2.heap.size 2 _ _ hbx; have fc2 := cell_of_row w3 w2.heap.size 2 _ _ _ hbx; have fz3 := frozen_of_row w3 w2.heap.size 3 _ _ hbx; have fc3 := cell_of_row w3 w2.heap.size 3 _ _ _ hbx; have r0 : w3.cell? ⟨p7, 0, none⟩ = some (.int .i64 kd) := (hb23.cell hl27).trans q0; have r1 : w3.cell? ⟨p7, 1, none⟩ = some (.slice A1 nk c1) := (hb23.cell hl27).trans q1; have r2 : w3.cell? ⟨p7, 2, none⟩ = some (.string t) := (hb23.cell hl27).trans q2; have HBX := Lib.hid (EntBox.early (kind := kd) (links := ls) (t := t) (bel_tr HB2.out (Nat.le_refl _) hb23) (own_below HO2.out hb23) hown3 rfl (Nat.le_refl _) (by have := HB2.out.size; simp; omega) hbx rfl HB2.out.size); have hlz : w2.heap.size < w3.heap.size := hltM hbx; have hne1 : ¬ (w2.heap.size = p7) := (by omega); have hne2 : ¬ (p7 = w2.heap.size) := (by omega); clear hbx; clear tokA hown3 hb3)
            | (have _t := tokB; go_at_call 65; refine (implMake_any ⟨#[]⟩ t mx w2 (by decide) (by omega) hg2 HM2.out).mono ?_; rintro e w3 ⟨v3, hown3, hb3, rfl⟩; obtain ⟨C, cC, rfl, -⟩ := Rd.of_own hown3; have hb23 : Below w2.heap.size w2 w3 := hb3; have hbx : w3.heap[w1.heap.size]? = _ := (hb3.block w1.heap.size hlz).trans HZ2.out; have fz0 := frozen_of_row w3 w1.heap.size 0 _ _ hbx; have fc0 := cell_of_row w3 w1.heap.size 0 _ _ _ hbx; have fz1 := frozen_of_row w3 w1.heap.size 1 _ _ hbx; have fc1 := cell_of_row w3 w1.heap.size 1 _ _ _ hbx; have fz2 := frozen_of_row w3 w1.heap.size 2 _ _ hbx; have fc2 := cell_of_row w3 w1.heap.size 2 _ _ _ hbx; have fz3 := frozen_of_row w3 w1.heap.size 3 _ _ hbx; have fc3 := cell_of_row w3 w1.heap.size 3 _ _ _ hbx; have r0 : w3.cell? ⟨p7, 0, none⟩ = some (.int .i64 kd) := (hb23.cell hl27).trans q0; have r1 : w3.cell? ⟨p7, 1, none⟩ = some (.slice A1 nk c1) := (hb23.cell hl27).trans q1; have r2 : w3.cell? ⟨p7, 2, none⟩ = some (.string t) := (hb23.cell hl27).trans q2; have HBX := Lib.hid (EntBox.early (kind := kd) (links := ls) (t := t) (bel_tr HB2.out (Nat.le_refl _) hb3) (own_below HO2.out hb3) hown3 rfl (Nat.le_refl _) HB2.out.size hbx rfl (Nat.le_refl _)); have hlz3 : w1.heap.size < w3.heap.size := hltM hbx; have hne1 : ¬ (w1.heap.size = p7) := (by omega); have hne2 : ¬ (p7 = w1.heap.size) := (by omega); clear hbx; clear tokB hown3 hb3))
        all_goals (go_wp2_with fail; go_meet; exact HBX.out)
      case rest =>
        clear tok1
        obtain ⟨p8, B, d, C, m, cc, rfl, hx8, hp8, hb18, hoB, hoC, hmC⟩ := hcut
        obtain ⟨w3, hw3⟩ : ∃ z, z = wc := ⟨_, rfl⟩
        subst hw3
        have hx73 := (hb18.block p7 hl7).trans HX7.out
        obtain ⟨w4, hw4⟩ : ∃ z, z = w3.alloc (.cells #[.int .i64 0, .slice none 0 0, .int .i64 0, .slice none 0 0, .pointer none, .string t] 92) := ⟨_, rfl⟩
        obtain ⟨p9, hp9⟩ : ∃ z, z = w3.heap.size := ⟨_, rfl⟩
        have hb4 : Below w3.heap.size w3 w4 := by rw [hw4]; exact (Below.refl _ _).alloc (Nat.le_refl _) _
        have HX94 : Hid (NodeM w4 none t p9) := by rw [hw4, hp9]; exact Lib.hid (heap_alloc_new w3 _)
        have HX84 := Lib.hid ((hb4.block p8 (hltM hx8)).trans hx8)
        have HX74 := Lib.hid ((hb4.block p7 (hltM hx73)).trans hx73)
        have HOB := Lib.hid (own_below hoB hb4)
        have HOC := Lib.hid (own_below hoC hb4)
        have HBr := Lib.hid (bel_tr HB1.out (Nat.le_refl _) (bel_tr hb18 (Nat.le_refl _) hb4))
        have hs3 := hb18.size
        have hs4 : p9 < w4.heap.size := hltM HX94.out
        have h73 : p7 < w3.heap.size := hltM hx73
        have h83 : p8 < w3.heap.size := hltM hx8
        have hs34 := hb4.size
        have hp7r : wo.heap.size ≤ p7 := by rw [HP7.out]; exact Nat.le_refl _
        have z2 : w3.cell? ⟨p7, 2, none⟩ = some (.string t) := cell_of_row _ _ 2 _ _ _ hx73
        have HMC := Lib.hid hmC
        go_upto_region 10 with (fail)
        rw [← hw4, ← hp9]
        have hn78 : ¬ (p7 = p8) := by omega
        have hn87 : ¬ (p8 = p7) := by omega
        have hn79 : ¬ (p7 = p9) := by omega
        have hn97 : ¬ (p9 = p7) := by omega
        have hn89 : ¬ (p8 = p9) := by omega
        have hn98 : ¬ (p9 = p8) := by omega
        have h8r : wo.heap.size ≤ p8 := by omega
        have h9r : wo.heap.size ≤ p9 := by omega
        clear hb4 hw4 hp9 hx73 hx8 hoB hoC hmC hb18 z2 k0 k1 k2
        go_wp2_with fail
        go_loopw [41] (fun i wi => ∃ (j : Nat) (r : Int) (C : Option Addr) (m cc : Nat), j ≤ k ∧ i = .int .i64 j ∧ Hid (r = bstTo (mkTo os k) os t j) ∧ m = (makeB (txtO os r) t).length ∧ Hid (wi.heap[p8]? = some (.cells #[.int .i64 kd, .slice B nk d, .int .i64 r, .slice C m cc] 60 (0, 0))) ∧ Hid (NodeM wi (ptrOf gs r) t p9) ∧
          Hid (wi.ownsRow w1.heap.size 96 3 (.slice C m cc) m ((makeB (txtO os r) t).flatMap co)) ∧ Hid (Chg w4 wi [p8, p9])) (fun i _ => k - (intOf i).toNat)
        case atStart => exact ⟨0, -1, C, m, cc, Nat.zero_le _, rfl, Lib.hid rfl, by rw [txtO_no (by omega)]; exact HMC.out, HX84, Lib.hid (by rw [ptr_no (by omega)]; exact HX94.out), Lib.hid (by rw [txtO_no (by omega)]; exact HOC.out), Lib.hid (Chg.refl _ _)⟩
        case round =>
          obtain ⟨j, r, C, m, cc, hj, rfl, HR, hml, HX8, HX9, HOC, HCH⟩ := hrel
          obtain ⟨w5, hw5⟩ : ∃ z, z = wr := ⟨_, rfl⟩
          subst hw5
          have hs45 := HCH.out.2.2.2.1
          have HBr5 := Lib.hid (chg_bel HBr.out HCH.out (by omega) (fun g hg => (List.mem_cons.1 hg).elim (fun e => by rw [e]; exact h8r) (fun h => by rw [List.mem_singleton.1 h]; exact h9r)))
          have HND5 := Lib.hid (HND.out.below HBr5.out)
          have HO5 := Lib.hid (own_below HO.out HBr5.out)
          have HB5 := Lib.hid (bel_tr HB.out (Nat.le_refl _) HBr5.out)
          have HX75 := Lib.hid ((HCH.out.2.2.2.2 p7 (by omega) (by simp; exact ⟨hn78, hn79⟩)).trans HX74.out)
          by_cases hlt5 : j < k
          · have hjg : j < gs.length := by rw [HG.out]; exact hlt5
            obtain ⟨gv, rfl, hgv1, hgv2⟩ := own_row_atP HO5.out (by omega)
            have hrow : w5.cell? ⟨gv, j, none⟩ = some (.pointer (some ⟨gs[j], 0, none⟩)) := by
              rw [HO5.out.cellAt j (by omega), List.getElem?_map, List.getElem?_eq_getElem hjg]; rfl
            obtain ⟨dp, hdp⟩ : ∃ z, z = depP (mkTo os gs.length) j := ⟨_, rfl⟩
            have hdp2 : dp ≤ 2 := by rw [hdp]; exact mkTo_dep2 os hjg
            have HDP := Lib.hid hdp
            go_wp2_with fail
            refine (depthM_any os w5 w.heap.size j gs HND5.out hjg (by rw [HG.out]; omega)).mono ?_
            rintro e w6 ⟨rfl, rfl⟩
            rw [← hdp]
            clear hdp
            by_cases h2 : dp = 2
            · have HRR : Hid (r = bstTo (mkTo os k) os t (j + 1)) := Lib.hid (by rw [bstTo_no (.inr (by have := HDP.out; rw [HG.out] at this; omega))]; exact HR.out)
              have h2e : ((dp : Int) == 2) = true := by simp; omega
              go_wp2_with fail
              go_roundw
              case rel => exact ⟨j + 1, r, C, m, cc, by omega, by go_num, HRR, hml, HX8, HX9, HOC, HCH⟩
              case measure => simp [intOf]; omega
            · have h2e : ((dp : Int) == 2) = false := by simp; omega
              have h2n : dp < 2 := by omega
              obtain ⟨hgj, hc4, hc5⟩ := HND5.out.cells hjg
              obtain ⟨tj, htj⟩ : ∃ z, z = (os.getD j zObjM).text := ⟨_, rfl⟩
              rw [← htj] at hc5
              have HTJ : Hid (tj = txtO os (j : Int)) := Lib.hid (by rw [htj]; unfold txtO; rw [if_pos (by omega), Int.toNat_natCast])
              clear hc4 htj
              have hjo : j < os.length := by have := HN.out; omega
              have htj8 : tj.size ≤ 8 := by
                rw [HTJ.out, txtO_at hjo]; exact (objB_and (HV.out _ (List.getElem_mem hjo))).2.2.1
              have z72 : w5.cell? ⟨p7, 2, none⟩ = some (.string t) := cell_of_row _ _ 2 _ _ _ HX75.out
              have hl75 : p7 < w5.heap.size := hltM HX75.out
              have hg5 : 0 < w5.drew.heap.size := Nat.lt_of_le_of_lt (Nat.zero_le _) hl75
              have HM5 : Hid (w5.drew.cell? ⟨0, 0, none⟩ = some (.int .i64 mx)) := Lib.hid ((HB5.out.cell hgw).trans HMX.out)
              go_upto_region 14 with (fail)
              go_region_held_law (fun w' => w'.cell? ⟨gs[j], 5, none⟩ = some (.string tj) ∧ w'.cell? ⟨p7, 2, none⟩ = some (.string t)) (go_keep)
                ((go_at_call 65; refine (implMake_any tj t mx w5.drew (by omega) (by omega) hg5 HM5.out).mono ?_; rintro e w6 ⟨v6, hown6, hb6', rfl⟩; have hb6 : Below w5.heap.size w5 w6 := bel_dr hb6'; have y5 : w6.cell? ⟨gs[j], 5, none⟩ = some (.string tj) := (hb6.cell hgj).trans hc5; have y2 : w6.cell? ⟨p7, 2, none⟩ = some (.string t) := (hb6.cell hl75).trans z72; obtain ⟨C6, c6, rfl, -, -, hrd6⟩ := Rd.of_own hown6; have HO6 : Hid (w6.ownsRow w5.heap.size 96 3 (.slice C6 (makeB tj t).length c6) (makeB tj t).length ((makeB tj t).flatMap co)) := Lib.hid hown6; have HF6 : Hid (Fl co w6 w5.heap.size w6.heap.size C6 (makeB tj t).length (makeB tj t)) := Lib.hid ⟨rfl, hrd6⟩; have HB6 := Lib.hid hb6; clear hown6 hb6' hb6 hrd6))
              obtain ⟨l6, hl6⟩ : ∃ z, z = (makeB tj t).length := ⟨_, rfl⟩
              have hl68 : l6 ≤ 8 := by rw [hl6]; exact make_len
              have HL6 := Lib.hid hl6
              rw [← hl6] at HO6 HF6
              rw [← hl6]
              have hs56 := HB6.out.size
              have hm8 : m ≤ 8 := by rw [hml]; exact make_len
              obtain ⟨q6, hq6⟩ : ∃ z, z = szO (makeB tj t) := ⟨_, rfl⟩
              obtain ⟨q, hq⟩ : ∃ z, z = szO (makeB (txtO os r) t) := ⟨_, rfl⟩
              have HQ6 := Lib.hid hq6
              have HQ := Lib.hid hq
              have HFC : Hid (Fl co w5 w1.heap.size w5.heap.size C m (makeB (txtO os r) t)) := by
                obtain ⟨A', c', e9, -, -, hr9⟩ := Rd.of_own HOC.out
                injection e9 with e91 e92 e93
                subst e91
                exact Lib.hid ⟨hml.symm, hr9⟩
              have HML := Lib.hid hml
              have hx86 := (HB6.out.block p8 (hltM HX8.out)).trans HX8.out
              have u3 : w6.cell? ⟨p8, 3, none⟩ = some (.slice C m cc) := cell_of_row _ _ 3 _ _ _ hx86
              have hl86 : p8 < w6.heap.size := hltM hx86
              have tokD : True := trivial
              clear hl6 hq6 hq hml y5 y2 hx86 z72 hc5
              go_upto_region 15 with (fail)
              go_region_held_law (fun w' => w'.cell? ⟨p8, 3, none⟩ = some (.slice C m cc)) (go_keep)
                (first
                  | (have _t := tokD; go_at_call 67; refine (implSize_ex C6 l6 c6 (makeB tj t) w6.drew w5.heap.size w6.heap.size (Nat.le_refl _) (by omega) HF6.out (fun o ho => by have := makeB_txt o ho; omega)).mono ?_; rintro e w7 ⟨rfl, hb7'⟩; rw [← HQ6.out]; have hb7 : Below w6.heap.size w6 w7 := bel_dr hb7'; have u37 : w7.cell? ⟨p8, 3, none⟩ = some (.slice C m cc) := (hb7.cell hl86).trans u3; have hl87 : p8 < w7.heap.size := Nat.lt_of_lt_of_le hl86 hb7.size; have HB7 := Lib.hid (bel_tr HB6.out (Nat.le_refl _) hb7); have HB67 := Lib.hid hb7; have h7s : w5.heap.size ≤ w7.heap.size := HB7.out.size; have tokE : True := trivial; clear tokD hb7' hb7)
                  | (have _t := tokE; go_at_call 67; refine (implSize_ex C m cc (makeB (txtO os r) t) w7 w1.heap.size w5.heap.size h7s (by omega) (HFC.out.below HB7.out (Nat.le_refl _)) (fun o ho => by have := makeB_txt o ho; omega)).mono ?_; rintro e w8 ⟨rfl, hb8⟩; rw [← HQ.out]; have u38 : w8.cell? ⟨p8, 3, none⟩ = some (.slice C m cc) := (hb8.cell hl87).trans u37; have HB8 := Lib.hid (bel_tr HB7.out (Nat.le_refl _) hb8); have HB68 := Lib.hid (bel_tr HB67.out (Nat.le_refl _) hb8); clear tokE hb8))
              have hx88 := (HB8.out.block p8 (hltM HX8.out)).trans HX8.out
              have hx98 := (HB8.out.block p9 (hltM HX9.out)).trans HX9.out
              have HX88 := Lib.hid hx88
              have HX98 : Hid (NodeM w8 (ptrOf gs r) t p9) := Lib.hid hx98
              have hs58 := HB8.out.size
              by_cases hqq : q6 < q
              · have hqi : (q6 : Int) < (q : Int) := by omega
                have HRR : Hid ((j : Int) = bstTo (mkTo os k) os t (j + 1)) := Lib.hid (by
                  refine (bstTo_yes ?_ ?_).symm
                  · rw [← HR.out, ← HTJ.out]; unfold dsz; rw [← HQ.out, ← HQ6.out]; exact hqq
                  · have := HDP.out; rw [HG.out] at this; omega)
                have s2 := cell_of_row _ _ 2 _ _ _ hx88
                have s3 := cell_of_row _ _ 3 _ _ _ hx88
                have s4 := cell_of_row _ _ 4 _ _ _ (show w8.heap[p9]? = some (.cells #[.int .i64 0, .slice none 0 0, .int .i64 0, .slice none 0 0, .pointer (ptrOf gs r), .string t] 92 (0, 0)) from hx98)
                have f2 := frozen_of_row w8 p8 2 _ _ hx88
                have f3 := frozen_of_row w8 p8 3 _ _ hx88
                have f4 := frozen_of_row w8 p9 4 _ _ (show w8.heap[p9]? = some (.cells #[.int .i64 0, .slice none 0 0, .int .i64 0, .slice none 0 0, .pointer (ptrOf gs r), .string t] 92 (0, 0)) from hx98)
                have l8 : p8 < w8.heap.size := hltM hx88
                have l9 : p9 < w8.heap.size := hltM hx98
                clear hx88 hx98 hqq
                go_wp2_with fail
                go_roundw
                case rel =>
                  refine ⟨j + 1, (j : Int), C6, l6, c6, by omega, by go_num, HRR, by rw [← HTJ.out]; exact HL6.out, Lib.hid ?_, Lib.hid ?_, Lib.hid ?_, Lib.hid ((((HCH.out.bel HB8.out).set (by simp) _ _).set (by simp) _ _).set (by simp) _ _)⟩
                  · have e1 : ((w8.setCell ⟨p8, 2, none⟩ (.int .i64 (j : Int))).setCell ⟨p8, 3, none⟩ (.slice C6 l6 c6)).heap[p8]? = _ := heap_setCell_same _ _ 3 _ _ _ (heap_setCell_same _ _ 2 _ _ _ HX88.out)
                    exact ((set_grownL ((w8.setCell ⟨p8, 2, none⟩ (.int .i64 (j : Int))).setCell ⟨p8, 3, none⟩ (.slice C6 l6 c6)) p9 4 (.pointer (some ⟨gs[j], 0, none⟩))).block p8 (hltM e1) (fun e => by injection e with e; exact hn89 e)).trans e1
                  · have e1 := ((set_grownL (w8.setCell ⟨p8, 2, none⟩ (.int .i64 (j : Int))) p8 3 (.slice C6 l6 c6)).block p9 (by simp [World.setCell]; exact l9) (fun e => by injection e with e; exact hn98 e)).trans (((set_grownL w8 p8 2 (.int .i64 (j : Int))).block p9 l9 (fun e => by injection e with e; exact hn98 e)).trans HX98.out)
                    unfold NodeM
                    rw [heap_setCell_same _ _ 4 _ _ _ e1, ptr_yes (gs := gs) (b := (j : Int)) (j := j) rfl hjg]; rfl
                  · have h1 := own_lowP (own_below HO6.out HB68.out) (show w1.heap.size ≤ w5.heap.size by omega)
                    have n1 := ownNeP HX88.out h1 (by decide)
                    have n2 := ownNeP (show w8.heap[p9]? = some (.cells #[.int .i64 0, .slice none 0 0, .int .i64 0, .slice none 0 0, .pointer (ptrOf gs r), .string t] 92 (0, 0)) from HX98.out) h1 (by decide)
                    rw [← HTJ.out]
                    exact ((h1.kept (set_grownL _ _ _ _) (.inr n1)).kept (set_grownL _ _ _ _) (.inr n1)).kept (set_grownL _ _ _ _) (.inr n2)
                case measure => simp [intOf]; omega
              · have hqi : ¬ ((q6 : Int) < (q : Int)) := by omega
                have HRR : Hid (r = bstTo (mkTo os k) os t (j + 1)) := Lib.hid (by
                  rw [bstTo_no (.inl ?_)]; exact HR.out
                  rw [← HR.out, ← HTJ.out]; unfold dsz; rw [← HQ.out, ← HQ6.out]; exact hqq)
                clear hx88 hx98 hqq
                go_wp2_with fail
                go_roundw
                case rel => exact ⟨j + 1, r, C, m, cc, by omega, by go_num, HRR, HML.out, HX88, HX98, Lib.hid (own_below HOC.out HB8.out), Lib.hid (HCH.out.bel HB8.out)⟩
                case measure => simp [intOf]; omega
          · have hjk : j = k := by omega
            subst hjk
            have n1 := ownNeP HX84.out HOB.out (by decide)
            have n2 := ownNeP (show w4.heap[p9]? = some (.cells #[.int .i64 0, .slice none 0 0, .int .i64 0, .slice none 0 0, .pointer none, .string t] 92 (0, 0)) from HX94.out) HOB.out (by decide)
            have hob5 := own_chg HOB.out HCH.out (fun g hg hm => (List.mem_cons.1 hm).elim (fun e => n1 (by rw [hg, e])) (fun h => n2 (by rw [hg, List.mem_singleton.1 h])))
            have hpart : OwnT w5 wo.heap.size (fPackEntry ⟨kd, ls, r, makeB (txtO os r) t⟩) [.int .i64 kd, .slice B nk d, .int .i64 r, .slice C m cc] := OwnT.ent (by omega) (by omega) hob5 HOC.out makeB_txt
            have HGU := Lib.hid (GrowU.mk_ HGR.out HBr5.out hpart hws)
            have hk1 : j < os.length := by have := HN.out; omega
            have HENT : Hid (mkTo os (j + 1) = mkTo os j ++ [⟨kd, ls, r, makeB (txtO os r) t⟩]) := Lib.hid (by rw [mkTo, entM_at hk1, ← HKD.out, ← HLS.out, ← HT.out, ← HR.out])
            have HTZ : Hid ((os.getD j zObjM).text = t) := Lib.hid (by rw [List.getD_eq_getElem?_getD, List.getElem?_eq_getElem hk1]; exact HT.out.symm)
            have hn9g : p9 ∉ gs := fun hm => by have := (HND.out.lt p9 hm).2; omega
            have HN9 := Lib.hid hn9g
            have l85 : p8 < w5.heap.size := hltM HX8.out
            have l95 : p9 < w5.heap.size := hltM HX9.out
            have tokN : True := trivial
            clear n1 n2 hob5 hpart hn9g hml
            go_wp2_with (first
              | (at_builtin; have _t := tokN; go_must (refine wpList_app_at Tryz.elPk (m := 1) (HO5.out.alloc _) (rd_newn (n := w5.heap.size) rfl [.pointer (some ⟨p9, 0, none⟩)] 90) rfl (by simp [Value.oneCell']) (by unfold maxLen; omega) (by omega) (by simp; omega) rfl rfl rfl rfl ?_); intro vA wA hownA hgA hatA; go_must (have HA := Lib.hid (mk_nodes HGU.out HO5.out HND5.out HX8.out HX9.out HB5.out HG.out HTZ.out HR.out HN9.out (by omega) hownA hgA hatA)); clear hownA hgA hatA; have xA := HA.out.2.2.2.1; have gA0 := cell_of_row wA p8 0 _ _ _ xA; have gA1 := cell_of_row wA p8 1 _ _ _ xA; have gA2 := cell_of_row wA p8 2 _ _ _ xA; have gA3 := cell_of_row wA p8 3 _ _ _ xA; have lA8 := hltM xA; obtain ⟨vs, hov, hrest⟩ := HA.out.1.row; have HOV := Lib.hid hov; have HFG := Lib.hid hrest; have hsA := HA.out.2.2.2.2.size; have tokO : True := trivial; clear tokN xA hov hrest)
              | (at_builtin; have _t := tokO; go_must (refine wpList_app_at Tryz.elPE9 (m := 1) (news := [.int .i64 kd, .slice B nk d, .int .i64 r, .slice C m cc]) (HOV.out.alloc _) (rd_newn (n := wA.heap.size) rfl [.int .i64 kd, .slice B nk d, .int .i64 r, .slice C m cc] 60) rfl (by simp [Value.oneCell']) (by unfold maxLen; omega) (by omega) (by simp; omega) rfl rfl rfl rfl ?_); intro vE wE hownE hgE hatE; go_must (have HE := Lib.hid (mk_entry HFG.out HOV.out HA.out.2.1 HA.out.2.2.1 HA.out.2.2.2.2 hsA hownE hgE hatE)); clear hownE hgE hatE))
            go_roundw
            case rel => exact ⟨j + 1, gs ++ [p9], by omega, by go_num, Lib.hid (by rw [List.length_append, HG.out]; rfl), Lib.hid HE.out.1, Lib.hid (by rw [List.map_append]; exact HE.out.2.1), Lib.hid (by rw [HENT.out, List.flatMap_append]; simpa using HE.out.2.2.1), Lib.hid HE.out.2.2.2⟩
            case measure => simp [intOf]; omega
    · have hkn : k = n := by omega
      subst hkn
      have HNL : Hid (mkL os = mkTo os k) := Lib.hid (by unfold mkL; rw [← HN.out])
      go_wp2_with fail
      go_ret2
      have hml : (mkL os).length = k := by rw [HNL.out, mkTo_len]
      refine ⟨Ao, cq, ?_, HB.out, by rw [hml]; rfl⟩
      have := HGR.out.grow.own
      unfold dPackEntrys
      rw [hml, HNL.out]
      exact this

end Go.Proofs.YtnaeglfochnikaaGreat
