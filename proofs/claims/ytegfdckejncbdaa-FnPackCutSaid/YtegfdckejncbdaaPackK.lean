/-
  The walk of the program's PackObjects: the objects of a pack. Condition: lengths are small.
-/
import Derived.Test.YtegfdckejncbdaaPackJ
import Derived.Deep.DeepCutAuto
import Derived.Deep.CutBlock
namespace Go.Proofs.Ytegfdckejncbdaa
set_option linter.unusedVariables false
set_option linter.unusedSimpArgs false
open Go.RowKit

theorem rdL_ops {w : World} {lo hi : Nat} : ∀ {xs : List OpD} {vs : List Value}, D.rdL w lo hi (xs.flatMap fOp) vs → vs = xs.flatMap co
  | [], vs, h => by simp only [List.flatMap_nil] at h; unfold D.rdL at h; subst h; rfl
  | x :: xs, vs, h => by
    rw [List.flatMap_cons] at h
    unfold fOp at h
    simp only [List.cons_append, List.nil_append] at h
    unfold D.rdL at h
    obtain ⟨v0, r0, rfl, h0, h⟩ := h
    unfold D.rdL at h
    obtain ⟨v1, r1, rfl, h1, h⟩ := h
    unfold D.rdL at h
    obtain ⟨v2, r2, rfl, h2, h⟩ := h
    rw [rdL_ops (xs := xs) h, h0.int_inv, h1.int_inv, h2.str_inv.1]; rfl
theorem D.rd.ops {w : World} {lo hi n c : Nat} {A : Option Addr} {xs : List OpD} (h : D.rd w lo hi (dOps xs) (.slice A n c)) : Fl co w lo hi A n xs := by
  have hn := h.len.1
  unfold dOps D.rd at h
  obtain ⟨A', c', vs, e, g2, g3, g4, g5, g6⟩ := h
  injection e with e1 e2 e3
  subst e1
  rw [rdL_ops g6] at g5
  exact ⟨hn.symm, g5⟩

theorem own_nilD (w : World) (lo m c : Nat) (A : Option Addr) (hc : c ≤ 9223372036854775807) : Own w lo (.arr m 0 []) (.slice A 0 c) := by
  refine ⟨[], List.nodup_nil, fun _ h => (by cases h), ?_⟩
  unfold D.own
  exact ⟨A, c, [], [], rfl, Nat.zero_le _, hc, by simp, D.ownL.nil w, .inl ⟨rfl, rfl⟩⟩

theorem nodup_inj {gs : List Nat} (h : gs.Nodup) {i j : Nat} (hi : i < gs.length) (hj : j < gs.length) (e : gs[i] = gs[j]) : i = j := by
  have h1 := List.pairwise_iff_getElem.1 h
  rcases Nat.lt_trichotomy i j with hl | hl | hl
  · exact absurd e (h1 i j hi hj hl)
  · exact hl
  · exact absurd e.symm (h1 j i hj hi hl)
/-- the texts of the first k entries -/
def textTo (ps : List PED) (k : Nat) (i : Nat) : ByteArray := if i < k then txtP ps i else ByteArray.empty
theorem Nodes.setText {w : World} {lo hi base : Nat} {ps : List PED} {T : Nat → ByteArray} {gs : List Nat} (h : Nodes w lo hi base ps T gs) {k : Nat} (hk : k < gs.length) (t : ByteArray) (hb : hi ≤ base) : Nodes (w.setCell ⟨gs[k], 5, none⟩ (.string t)) lo hi base ps (fun i => if i = k then t else T i) gs := by
  refine ⟨h.1, fun i hi' => ?_⟩
  obtain ⟨hp, hbi, hn⟩ := h.2 i hi'
  refine ⟨hp, hbi, ?_⟩
  have hbk := (h.2 k hk).choose_spec.1
  have hrk : ∀ q : Addr, lo ≤ q.block → q.block < hi → (w.setCell ⟨gs[k], 5, none⟩ (.string t)).cell? q = w.cell? q := fun q _ hq => World.cell?_setCell_other _ _ _ _ (fun e => by have : gs[k] = q.block := congrArg Addr.block e; omega)
  by_cases hik : i = k
  · subst hik
    show NodeAt _ lo hi ps[i] _ (if i = i then t else T i) gs[i]
    rw [if_pos rfl]
    obtain ⟨A, n, c, B, m, d, h1, h2, h3⟩ := hn
    refine ⟨A, n, c, B, m, d, ?_, D.rd.keep hrk (Nat.le_refl _) (Nat.le_refl _) _ _ h2, D.rd.keep hrk (Nat.le_refl _) (Nat.le_refl _) _ _ h3⟩
    rw [heap_setCell_same w gs[i] 5 _ _ _ h1]; rfl
  · show NodeAt _ lo hi ps[i] _ (if i = k then t else T i) gs[i]
    rw [if_neg hik]
    refine hn.keep (Below.heap_setCell _ _ _ _ (fun e => ?_)) hrk
    have e' : gs[i] = gs[k] := e
    exact hik (nodup_inj h.1 hi' hk e')
theorem Nodes.textEq {w : World} {lo hi base : Nat} {ps : List PED} {T T' : Nat → ByteArray} {gs : List Nat} (h : Nodes w lo hi base ps T gs) (he : ∀ i, i < gs.length → T i = T' i) : Nodes w lo hi base ps T' gs :=
  ⟨h.1, fun i hi' => by
    obtain ⟨hp, hb, hn⟩ := h.2 i hi'
    rw [← he i hi']
    exact ⟨hp, hb, hn⟩⟩

theorem strD_size (b : ByteArray) (ops : List OpD) : (strD b ops).size ≤ 8 := by
  rcases h : okD b ops with _ | _
  · rw [strD_no h]; decide
  · exact okD_size h
theorem txtP_size (ps : List PED) (i : Nat) : (txtP ps i).size ≤ 8 := by rw [txtP]; exact strD_size _ _
theorem btxtP_size (ps : List PED) (i : Nat) : (btxtP ps i).size ≤ 8 := by
  unfold btxtP
  split
  · exact txtP_size _ _
  · decide
theorem bel_dr {W W' : World} (h : Below W.drew.heap.size W.drew W') : Below W.heap.size W W' := ⟨h.os, h.tape, h.output, h.size, h.block⟩

theorem bel_al {W W' : World} {o : Obj} (h : Below (W.alloc o).heap.size (W.alloc o) W') : Below W.heap.size W W' := ((Below.refl _ _).alloc (Nat.le_refl _) o).trans (h.mono (by simp))
/-- an object in a box, its links in memory of their own -/
def ObjBox (kind : Int) (links : List Int) (t : ByteArray) (nk : Nat) (w : World) (v : Value) (wx : World) : Prop :=
  ∃ (p : Nat) (B : Option Addr) (d : Nat), v = .pointer (some ⟨p, 0, none⟩) ∧ wx.heap[p]? = some (.cells #[.int .i64 kind, .slice B nk d, .string t] 39 (0, 0)) ∧ w.heap.size ≤ p ∧ Below w.heap.size w wx ∧
    OwnL wx w.heap.size (fObject ⟨kind, links, t⟩) [.int .i64 kind, .slice B nk d, .string t]
theorem ObjBox.late {w w3 : World} {links : List Int} {nk d lo : Nat} {B : Option Addr} {o : Obj} (kind : Int) (t : ByteArray) (ht : t.size ≤ 9223372036854775807) (hb : Below w.heap.size w w3) (ho : Own w3 lo (intsD links) (.slice B nk d)) (he : o = .cells #[.int .i64 kind, .slice B nk d, .string t] 39 (0, 0)) (hlo : lo = w.heap.size := by rfl) :
    ObjBox kind links t nk w (.pointer (some ⟨w3.heap.size, 0, none⟩)) (w3.alloc o) := by
  subst hlo he
  refine ⟨w3.heap.size, B, d, rfl, heap_alloc_new w3 _, hb.size, hb.alloc hb.size _, ?_⟩
  exact ((((OwnL.nil w w.heap.size).int kind).snoc (Nat.le_refl _) hb ho (Nat.le_refl _)).str ht).fresh ((Below.refl _ _).alloc (Nat.le_refl _) _)
theorem ObjBox.early {w W w3 : World} {links : List Int} {nk d : Nat} {B : Option Addr} {o : Obj} {z : Array Value} (kind : Int) (t : ByteArray) (ht : t.size ≤ 9223372036854775807) (hb : Below (w.alloc o).heap.size (w.alloc o) w3) (ho : Own w3 W.heap.size (intsD links) (.slice B nk d))
    (hx : w3.heap[w.heap.size]? = some (.cells z 39 (0, 0))) (hz : z = #[.int .i64 0, .slice none 0 0, .string ⟨#[]⟩] := by rfl) (hW : W.heap.size = w.heap.size + 1 := by simp) :
    ObjBox kind links t nk w (.pointer (some ⟨w.heap.size, 0, none⟩)) (((w3.setCell ⟨w.heap.size, 0, none⟩ (.int .i64 kind)).setCell ⟨w.heap.size, 1, none⟩ (.slice B nk d)).setCell ⟨w.heap.size, 2, none⟩ (.string t)) := by
  subst hz
  have hb0 := bel_al hb
  refine ⟨w.heap.size, B, d, rfl, ?_, Nat.le_refl _, ((hb0.setCell (Nat.le_refl _) _).setCell (Nat.le_refl _) _).setCell (Nat.le_refl _) _, ?_⟩
  · rw [heap_setCell_same _ _ 2 _ _ _ (heap_setCell_same _ _ 1 _ _ _ (heap_setCell_same _ _ 0 _ _ _ hx))]; rfl
  · have h1 : OwnL w3 (w.heap.size + 1) (fObject ⟨kind, links, t⟩) [.int .i64 kind, .slice B nk d, .string t] := by
      have := (((OwnL.nil (w.alloc o) (w.heap.size + 1)).int kind).snoc (w' := w3) (lo2 := W.heap.size) (by simp [hW]) hb ho (by omega)).str ht
      exact this
    exact (((h1.set (by omega) _ _).set (by omega) _ _).set (by omega) _ _).low (by omega)

theorem pack_nodes {w w1 w6 w7 : World} {lo hi k n : Nat} {ps : List PED} {gs : List Nat} {o : Obj} {row : Option Nat} {t : ByteArray} (h : Nodes w6 lo hi w.heap.size ps (textTo ps k) gs) (hk : k < gs.length) (_ : gs.length = n) (hh : hi ≤ w.heap.size) (h1 : w.heap.size ≤ w1.heap.size) (h6 : w1.heap.size ≤ w6.heap.size) (ht : t = txtP ps k)
    (hgl : ∀ g ∈ gs, w.heap.size ≤ g ∧ g < w1.heap.size) (hrow : ∀ g, row = some g → w1.heap.size ≤ g) (hg : ((w6.setCell ⟨gs[k], 5, none⟩ (.string t)).alloc o).grownBy w7 row) : Nodes w7 lo hi w.heap.size ps (textTo ps (k + 1)) gs := by
  have hs : (w6.setCell ⟨gs[k], 5, none⟩ (.string t)).heap.size = w6.heap.size := by simp [World.setCell]
  have hs2 : ((w6.setCell ⟨gs[k], 5, none⟩ (.string t)).alloc o).heap.size = w6.heap.size + 1 := by simp [World.setCell]
  have h2 := h.setText hk t hh
  have h3 : Nodes (w6.setCell ⟨gs[k], 5, none⟩ (.string t)) lo hi w.heap.size ps (textTo ps (k + 1)) gs := h2.textEq fun i _ => by
    unfold textTo
    by_cases hik : i = k
    · subst hik; rw [if_pos rfl, if_pos (by omega), ht]
    · rw [if_neg hik]
      by_cases hl : i < k
      · rw [if_pos hl, if_pos (by omega)]
      · rw [if_neg hl, if_neg (by omega)]
  have key : ∀ g, g < w1.heap.size → w7.heap[g]? = (w6.setCell ⟨gs[k], 5, none⟩ (.string t)).heap[g]? := fun g hg1 =>
    (hg.block g (by omega) (fun e => by have := hrow g e.symm; omega)).trans (Below.heap_alloc _ _ _ (by omega))
  exact h3.keep (fun g hg' => key g (hgl g hg').2) (fun q _ hq => World.cell?_of_block (key q.block (by omega)))
theorem pack_row {w w1 w6 w7 : World} {lo hi k n cv gv : Nat} {ps : List PED} {T : Nat → ByteArray} {gs : List Nat} {o : Obj} {row : Option Nat} {t : ByteArray} {cs cs1 : List Value} (h : w6.ownsRow w.heap.size 60 1 (.slice (some ⟨gv, 0, none⟩) n cv) n cs) (hnd : Nodes w6 lo hi w.heap.size ps T gs) (hk : k < gs.length)
    (h1 : w1.ownsRow w.heap.size 60 1 (.slice (some ⟨gv, 0, none⟩) n cv) n cs1) (_ : 0 < n) (hrow : ∀ g, row = some g → w1.heap.size ≤ g) (hg : ((w6.setCell ⟨gs[k], 5, none⟩ (.string t)).alloc o).grownBy w7 row) : w7.ownsRow w.heap.size 60 1 (.slice (some ⟨gv, 0, none⟩) n cv) n cs := by
  have hne := hnd.ne_own h (by decide) gs[k] (List.getElem_mem hk)
  have h2 : (w6.setCell ⟨gs[k], 5, none⟩ (.string t)).ownsRow w.heap.size 60 1 (.slice (some ⟨gv, 0, none⟩) n cv) n cs := h.kept (set_grownL w6 gs[k] 5 (.string t)) (.inr hne)
  refine (h2.alloc o).kept hg (.inr fun e => ?_)
  have := hrow gv e.symm
  have := (h1.lt gv rfl).2
  omega

/-- what PackObjects leaves -/
def PackR (ps : List PED) (w : World) (e : Ending) (w' : World) : Prop :=
  Below w.heap.size w w' ∧ ∃ (B : Option Addr) (m d : Nat), Own w' w.heap.size (dObjects (packL ps)) (.slice B m d) ∧ e = .returned (.tuple #[.slice B m d, .bool (packB ps)])
theorem PackR.no {ps : List PED} {w w' : World} (h : packB ps = false) (hb : Below w.heap.size w w') : PackR ps w (.returned (.tuple #[.slice none 0 0, .bool false])) w' :=
  ⟨hb, none, 0, 0, by rw [packL_no h]; exact own_nilD _ _ _ _ _ (by omega), by rw [h]⟩

theorem entOk_no1 {ps : List PED} {k : Nat} (h : okD (btxtP ps k) (opsAt ps k) = false) : entOk ps k = false := by unfold entOk; rw [h]; rfl
theorem entOk_no2 {ps : List PED} {k : Nat} (h : objB (objP ps k) = false) : entOk ps k = false := by unfold entOk; rw [h]; simp

set_option maxHeartbeats 6400000 in
set_option maxRecDepth 100000 in
theorem implPack_any (ps : List PED) (A : Option Addr) (n c : Nat) (w : World) (lo hi : Nat) (hh : hi ≤ w.heap.size) (hn : n ≤ 1048576) (hs : D.sz (dPackEntrys ps) ≤ 1048576) (h : D.rd w lo hi (dPackEntrys ps) (.slice A n c)) :
    Calls Try.prog 14 #[.slice A n c] w fun e w' => PackR ps w e w' := by
  have HI := Lib.hid h
  have HN := Lib.hid h.len.1
  have HSZ := Lib.hid hs
  clear h hs
  by_cases h16 : 16 < n
  · have hno := Lib.hid (packB_big (ps := ps) (by rw [← HN.out]; exact h16))
    go_enter Try.func14, Try.ntmps14
    go_wp2_with fail
    go_ret2
    exact PackR.no hno.out (Below.refl _ _)
  · have hn16 : n ≤ 16 := by omega
    clear h16
    go_enter Try.func14, Try.ntmps14
    go_wp2_with fail
    refine (linkPack_any ps A n c _ lo hi hh (by omega) HI.out).mono ?_
    rintro e w1 ⟨hb1, ⟨hl, rfl⟩ | ⟨hl, V, cv, gs, hgl, hcv1, hcv2, hown1, hnd1, rfl⟩⟩
    · have hno := Lib.hid (packB_link hl)
      have HB1 := Lib.hid hb1
      clear hb1 hl
      go_wp2_with fail
      go_ret2
      exact PackR.no hno.out HB1.out
    · have HL := Lib.hid hl
      have HG := Lib.hid hgl
      have HO1 := Lib.hid hown1
      have HND1 := Lib.hid (hnd1.textEq (T' := textTo ps 0) (fun i _ => by unfold textTo; rw [if_neg (by omega)]))
      have HB1 := Lib.hid hb1
      have HGL := Lib.hid hnd1.lt
      have hws1 := hb1.size
      clear hl hgl hown1 hnd1 hb1
      go_wp2_with fail
      go_loopw [6, 24] (fun v i wr => ∃ (k : Nat), k ≤ n ∧ i = .int .i64 k ∧ Hid (allTo (depOk ps) k = true) ∧ Hid (allTo (entOk ps) k = true) ∧ Nodes wr lo hi w.heap.size ps (textTo ps k) gs ∧ wr.ownsRow w.heap.size 60 1 (.slice V n cv) n (gs.map fun g => .pointer (some ⟨g, 0, none⟩)) ∧
        Grow wr w1.heap.size 39 3 v k ((packTo ps k).flatMap fObject) ∧ Below w.heap.size w wr ∧ w1.heap.size ≤ wr.heap.size) (fun _ i _ => n - (intOf i).toNat)
      case atStart => exact ⟨0, Nat.zero_le _, rfl, rfl, rfl, HND1.out, HO1.out, Grow.nil ⟨by simp, .inl ⟨rfl, rfl⟩⟩, HB1.out, Nat.le_refl _⟩
      case round =>
        obtain ⟨k, hk, rfl, HD, HE, hnd, hown, hgr, hb, hws⟩ := hrel
        obtain ⟨B6, d6, rfl, hd61, hd62, -⟩ := hgr.own.rd.arr_inv
        have HND := Lib.hid hnd
        have HO := Lib.hid hown
        have HGR := Lib.hid hgr
        have HB := Lib.hid hb
        have hwsz := hb.size
        clear hnd hown hb hgr
        by_cases hlt : k < n
        · have hkg : k < gs.length := by rw [HG.out]; exact hlt
          obtain ⟨hp, Ak, nk, ck, Bk, mk, dk, hgk, hc0, hc1, hc3, hc4, hc5, hf5, hr1, hr3⟩ := HND.out.cells hkg
          obtain ⟨gv, rfl, hgv1, hgv2⟩ := own_row_at HO.out (by omega)
          have hrow : wr.cell? ⟨gv, k, none⟩ = some (.pointer (some ⟨gs[k], 0, none⟩)) := by
            rw [HO.out.cellAt k (by omega), List.getElem?_map, List.getElem?_eq_getElem hkg]; rfl
          have HR1 := Lib.hid hr1
          have HR3 := Lib.hid hr3
          have HLA : Hid (allTo (baseOk ps) gs.length = true) := by rw [HG.out, HN.out]; exact HL.out
          have hbk := Lib.hid (base_all HLA.out k hkg hp)
          obtain ⟨bt, hbt⟩ : ∃ bt, bt = btxtP ps k := ⟨_, rfl⟩
          have HBT : Hid ((if 0 ≤ ps[k].base then textTo ps k ps[k].base.toNat else ByteArray.empty) = bt) := by
            show _ = bt
            rw [hbt]
            unfold btxtP textTo
            rw [base_at hp]
            split
            · rw [if_pos (by have := hbk.out; omega)]
            · rfl
          have hbt8 : bt.size ≤ 8 := by rw [hbt]; exact btxtP_size _ _
          obtain ⟨t, ht⟩ : ∃ t, t = txtP ps k := ⟨_, rfl⟩
          have ht8 : t.size ≤ 8 := by rw [ht]; exact txtP_size _ _
          obtain ⟨ok, hok⟩ : ∃ ok, ok = okD bt ps[k].ops := ⟨_, rfl⟩
          have HST : Hid (strD bt ps[k].ops = t) := by
            show _ = t
            rw [ht, txtP_eq ((allTo_iff _ _).1 HLA.out k hkg), ← hbt, ops_at hp]
          have HOK := Lib.hid hok
          have HTX := Lib.hid ht
          have HB0 := Lib.hid hbt
          have hsz1 := sz_PackEntry_get (xs := ps) (List.getElem_mem hp)
          rw [szL_fPackEntry, sz_ints] at hsz1
          have hnk : nk ≤ 1048576 := by have h1 := HR1.out.ints.1; have h2 := HSZ.out; omega
          have hmk : mk ≤ 9223372036854775807 := by have h1 := HR3.out.len; omega
          have HNDd := Lib.hid (HND.out.drewN 1)
          have HOPd : Hid (Fl co wr.drew lo hi Bk mk ps[k].ops) := HR3.out.drew.ops
          have hhr : hi ≤ wr.heap.size := Nat.le_trans hh hwsz
          have hhrd : hi ≤ wr.drew.heap.size := hhr
          clear hr1 hr3 hbt ht hok hsz1
          go_wp2_with fail
          go_region_held3 (fun w' => w'.cell? ⟨gs[k], 3, none⟩ = some (.slice Bk mk dk)) (go_keep)
            (first
              | (go_at_call 33; refine (baseText_any ps wr.drew lo hi w.heap.size k (textTo ps k) gs HNDd.out HLA.out hkg hp bt HBT.out).mono ?_; rintro e w2 ⟨rfl, rfl⟩)
              | (go_at_call 32; (with_reducible refine (implDelta_any bt Bk mk dk ps[k].ops wr.drew lo hi hhrd (by omega) hmk HOPd.out).mono ?_); rintro e w2 ⟨rfl, hb2'⟩; have hb2 := bel_dr hb2'; have k3 : w2.cell? ⟨gs[k], 3, none⟩ = some (.slice Bk mk dk) := (hb2.cell hgk).trans hc3; have k0 : w2.cell? ⟨gs[k], 0, none⟩ = some (.int .i64 ps[k].kind) := (hb2.cell hgk).trans hc0; have k1 : w2.cell? ⟨gs[k], 1, none⟩ = some (.slice Ak nk ck) := (hb2.cell hgk).trans hc1; have hl2 : gs[k] < w2.heap.size := Nat.lt_of_lt_of_le hgk hb2.size; have HB2 := Lib.hid hb2; clear hb2 hb2'; unfold DRes; rw [HST.out, ← HOK.out]))
          go_wp2_with fail
          have hh2 : hi ≤ w2.heap.size := Nat.le_trans hhr HB2.out.size
          have hh2d : hi ≤ w2.drew.heap.size := hh2
          have HR12 := Lib.hid (HR1.out.below HB2.out hhr)
          clear hc0 hc1 hc3 hc4 hc5 hf5
          have hne1 : ¬ (w2.heap.size = gs[k]) := by omega
          have hne2 : ¬ (gs[k] = w2.heap.size) := by omega
          go_upto_region 11 with (fail)
          go_cut [11] (fun v wx => ObjBox ps[k].kind ps[k].links t nk w2 v wx)
          case first =>
            go_region_held3 (fun w' => w'.cell? ⟨gs[k], 0, none⟩ = some (.int .i64 ps[k].kind) ∧ w'.cell? ⟨gs[k], 1, none⟩ = some (.slice Ak nk ck)) (go_keep)
              (first
                | (go_at_call 34; refine (cloneInt_d ps[k].links Ak nk ck w2.drew lo hi hh2d hnk HR12.out.drew).mono ?_; rintro e w3 ⟨B4, d4, ho3, hb3', rfl⟩; have hb3 := bel_dr hb3'; have k30 : w3.cell? ⟨gs[k], 0, none⟩ = some (.int .i64 ps[k].kind) := (hb3.cell hl2).trans k0; have k31 : w3.cell? ⟨gs[k], 1, none⟩ = some (.slice Ak nk ck) := (hb3.cell hl2).trans k1; have hl3 : gs[k] < w3.heap.size := Nat.lt_of_lt_of_le hl2 hb3.size; have HBX := Lib.hid (ObjBox.late (o := .cells #[.int .i64 ps[k].kind, .slice B4 nk d4, .string t] 39) ps[k].kind t (by omega) hb3 ho3 rfl); clear hb3 hb3' ho3)
                | (go_at_call 34; refine (cloneInt_d ps[k].links Ak nk ck _ lo hi (by simp; omega) hnk (HR12.out.alloc hh2 _).drew).mono ?_; rintro e w3 ⟨B4, d4, ho3, hb3', rfl⟩; have hb3 := bel_al (bel_dr hb3'); have k30 : w3.cell? ⟨gs[k], 0, none⟩ = some (.int .i64 ps[k].kind) := (hb3.cell hl2).trans k0; have k31 : w3.cell? ⟨gs[k], 1, none⟩ = some (.slice Ak nk ck) := (hb3.cell hl2).trans k1; have hl3 : gs[k] < w3.heap.size := Nat.lt_of_lt_of_le hl2 hb3.size; have hbx := (bel_dr hb3').block w2.heap.size (by simp) |>.trans (heap_alloc_new w2 _); have kb0 := cell_of_row w3 w2.heap.size 0 _ _ _ hbx; have kb1 := cell_of_row w3 w2.heap.size 1 _ _ _ hbx; have kb2 := cell_of_row w3 w2.heap.size 2 _ _ _ hbx; have fb0 := frozen_of_row w3 w2.heap.size 0 _ _ hbx; have fb1 := frozen_of_row w3 w2.heap.size 1 _ _ hbx; have fb2 := frozen_of_row w3 w2.heap.size 2 _ _ hbx; have HBX := Lib.hid (ObjBox.early ps[k].kind t (by omega) (bel_dr hb3') ho3 hbx); clear hb3 hb3' ho3 hbx))
            all_goals (go_wp2_with fail; go_meet; exact HBX.out)
          case rest =>
            obtain ⟨p, B4, d4, rfl, hbx, hpw, hb24, hpart⟩ := hcut
            obtain ⟨w4, hw4⟩ : ∃ w4, w4 = wc := ⟨_, rfl⟩
            subst hw4
            have hbr4 := bel_tr HB2.out (Nat.le_refl _) hb24
            have hs4 := hb24.size
            have hs2 := HB2.out.size
            have HND4 := Lib.hid (HND.out.below hbr4 hhr)
            have HB4 := Lib.hid (bel_tr HB.out (Nat.le_refl _) hbr4)
            have HO4 := Lib.hid (own_below HO.out hbr4)
            have HGP := Lib.hid (GrowP.mk_ HGR.out hbr4 (hpart.low HB2.out.size) hws)
            have hrB : Hid (D.rd w4 w2.heap.size w4.heap.size (intsD ps[k].links) (.slice B4 nk d4)) := by
              obtain ⟨F, -, k2, k3⟩ := hpart
              obtain ⟨u, hu, hr⟩ := (D.ownL.rd _ F _ k2 k3).get (j := 1) (d := intsD ps[k].links) rfl
              simp at hu
              subst hu
              exact hr
            have b0 := cell_of_row w4 p 0 _ _ _ hbx
            have b1 := cell_of_row w4 p 1 _ _ _ hbx
            have b2 := cell_of_row w4 p 2 _ _ _ hbx
            have hbl : p < w4.heap.size := World.block_lt_of_cell? _ _ b0
            have hgk4 : gs[k] < w4.heap.size := by omega
            clear hb24 hbr4 hpart k0 k1 k3
            go_wp2_with fail
            refine (depth_any ps _ lo hi w.heap.size k (textTo ps k) gs HND4.out HLA.out hkg (by rw [HG.out]; omega)).mono ?_
            rintro e w5 ⟨rfl, rfl⟩
            obtain ⟨q, hq⟩ : ∃ q, depP ps k = q := ⟨_, rfl⟩
            rw [hq]
            by_cases h2 : 2 < q
            · have hno := Lib.hid (packB_dep hp (by unfold depOk; rw [hq]; exact decide_eq_false (by omega)))
              clear hq
              go_wp2_with fail
              go_ret2
              exact PackR.no hno.out HB4.out
            · have HDP : Hid (depOk ps k = true) := by show depOk ps k = true; unfold depOk; rw [hq]; exact decide_eq_true (by omega)
              have hq2 : q ≤ 2 := by omega
              have HQ := Lib.hid hq
              clear hq h2
              rcases ok with _ | _
              · have hno := Lib.hid (packB_ent hp (entOk_no1 (by rw [ops_at hp, ← HB0.out]; exact HOK.out.symm)))
                go_wp2_with fail
                go_ret2
                exact PackR.no hno.out HB4.out
              · go_wp2_with fail
                refine (objOk_any ps[k].kind ps[k].links t B4 nk d4 w4 w2.heap.size w4.heap.size (Nat.le_refl _) (by omega) hrB.out).mono ?_
                rintro e w6 ⟨rfl, hb6⟩
                rcases hv : objB ⟨ps[k].kind, ps[k].links, t⟩ with _ | _
                · have hno := Lib.hid (packB_ent hp (entOk_no2 (by rw [obj_at hp, ← HTX.out]; exact hv)))
                  have HB6 := Lib.hid (bel_tr HB4.out (Nat.le_refl _) hb6)
                  clear hb6
                  go_wp2_with fail
                  go_ret2
                  exact PackR.no hno.out HB6.out
                · have HEN : Hid (entOk ps k = true) := by
                    show entOk ps k = true
                    unfold entOk
                    rw [ops_at hp, ← HB0.out, ← HOK.out, obj_at hp, ← HTX.out, hv]; rfl
                  have HB6 := Lib.hid (bel_tr HB4.out (Nat.le_refl _) hb6)
                  have HND6 := Lib.hid (HND4.out.below hb6 (by omega))
                  have HO6 := Lib.hid (own_below HO4.out hb6)
                  have hgl1 := (HGL.out _ (List.getElem_mem hkg)).2
                  have hgl0 := (HGL.out _ (List.getElem_mem hkg)).1
                  have HGP6 := Lib.hid ((HGP.out.fresh hb6).set hgl1 5 (.string t))
                  have e0 := (hb6.cell (p := ⟨p, 0, none⟩) hbl).trans b0
                  have e1 := (hb6.cell (p := ⟨p, 1, none⟩) hbl).trans b1
                  have e2 := (hb6.cell (p := ⟨p, 2, none⟩) hbl).trans b2
                  obtain ⟨-, -, -, -, -, -, -, hgk6, -, -, -, -, e5, ef5, -, -⟩ := HND6.out.cells hkg
                  have hpk : ¬ (gs[k] = p) := by omega
                  have hpk2 : ¬ (p = gs[k]) := by omega
                  have hs6 := hb6.size
                  have hw6 : w1.heap.size ≤ w6.heap.size := by omega
                  clear hb6 b0 b1 b2 hv
                  obtain ⟨vs, hvs⟩ := HGP6.out
                  obtain ⟨F, G, hov, hrest⟩ := hvs
                  have HOV := Lib.hid hov
                  have HFG : Hid (∃ F G, (w6.setCell ⟨gs[k], 5, none⟩ (.string t)).ownsRow w1.heap.size 39 3 (.slice B6 k d6) k vs ∧ D.ownL (w6.setCell ⟨gs[k], 5, none⟩ (.string t)) ((packTo ps k).flatMap fObject) F vs ∧ D.ownL (w6.setCell ⟨gs[k], 5, none⟩ (.string t)) (fObject ⟨ps[k].kind, ps[k].links, t⟩) G [.int .i64 ps[k].kind, .slice B4 nk d4, .string t] ∧ (F ++ G).Nodup ∧ (∀ g ∈ F ++ G, w1.heap.size ≤ g ∧ g < (w6.setCell ⟨gs[k], 5, none⟩ (.string t)).heap.size) ∧ ∀ g, (Value.slice B6 k d6).ownBlock = some g → g ∉ F ++ G) := ⟨F, G, hov, hrest⟩
                  clear hov hrest
                  go_wp2_with (at_builtin; go_must (refine wpList_app_at Try.elObj (m := 1) (news := [.int .i64 ps[k].kind, .slice B4 nk d4, .string t]) (HOV.out.alloc _) (rd_newn (by simp) [.int .i64 ps[k].kind, .slice B4 nk d4, .string t] 39) rfl (by simp [Value.oneCell']) (by unfold maxLen; omega) (by omega) (by simp; omega) rfl rfl rfl rfl ?_); intro v7 w7 hown7 hg7 hat7; have HGR7 := Lib.hid (GrowP.done HFG.out hown7 hg7 hat7); have HB7 := Lib.hid (below_app ((HB6.out.setCell (by simp; omega) _).alloc (by simp; omega) _) (by omega) (by simp; omega) (HOV.out.alloc _) hg7); have HN7 := Lib.hid (pack_nodes HND6.out hkg HG.out hh hws1 hw6 HTX.out HGL.out (fun g hg => (HOV.out.lt g hg).1) hg7); have HO7 := Lib.hid (pack_row HO6.out HND6.out hkg HO1.out (by omega) (fun g hg => (HOV.out.lt g hg).1) hg7); have hs7 : w1.heap.size ≤ w7.heap.size := (by have := hg7.size; simp at this; omega); clear hown7 hg7 hat7)
                  go_roundw
                  case rel => exact ⟨k + 1, by omega, by go_num, allTo_succ HD.out HDP.out, allTo_succ HE.out HEN.out, HN7.out, HO7.out, by rw [packTo_succ, List.flatMap_append, obj_at hp, ← HTX.out]; simpa using HGR7.out, HB7.out, hs7⟩
                  case measure => simp [intOf]; omega
        · have hkn : k = n := by omega
          subst hkn
          have HY : Hid (packB ps = true) := packB_yes (by rw [← HN.out]; exact hn16) HL.out (by rw [← HN.out]; exact HD.out) (by rw [← HN.out]; exact HE.out)
          have HO2 := Lib.hid (HGR.out.own.low (lo' := w.heap.size) hws1)
          go_wp2_with fail
          go_ret2
          exact ⟨HB.out, B6, k, d6, by rw [packL_yes HY.out, ← HN.out]; unfold dObjects; rw [packTo_len]; exact HO2.out, by rw [HY.out]; rfl⟩

end Go.Proofs.Ytegfdckejncbdaa
