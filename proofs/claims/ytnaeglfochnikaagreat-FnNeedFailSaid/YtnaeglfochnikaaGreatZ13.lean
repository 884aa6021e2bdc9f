/-
  The datum of PackEntry, and the walks of the laws' functions that count, copy and compare it (szPackEntry, toPackEntry, eqPackEntry and those over slices). Condition: lengths fit an int64.
  The walks of the program's linkPack, depth and baseText: entries of a pack that are linked to their bases. Condition: lengths are small.
  A row of the call's own that grows by an element whose parts have been made in memory of their own. Plain words; no condition.
  The walks of the program's PackObjects and PackSum: the objects of a pack, and its sum. Condition: lengths are small.
-/
import Derived.Test.YtnaeglfochnikaaGreatZ12
import Derived.Test.YtnaeglfochnikaaGreatZ1
import Derived.StillTailTactics
import Derived.Test.YtnaeglfochnikaaGreatZ7
import Derived.Test.YtnaeglfochnikaaGreatZ6
import Derived.Test.YtnaeglfochnikaaGreatZ5
import Derived.Test.YtnaeglfochnikaaGreatZ2
import Derived.Test.YtnaeglfochnikaaGreatTObject
import Derived.Deep.RegionHeld3
namespace Go.Proofs.YtnaeglfochnikaaGreat
set_option linter.unusedVariables false
set_option linter.unusedSimpArgs false
open Go.RowKit

/-- the fields of a value of type PackEntry -/
def fPackEntry (x : PED) : List D := [.int x.kind, intsD x.links, .int x.base, dOps x.ops]
theorem fPackEntry_len (x : PED) : (fPackEntry x).length = 4 := rfl
/-- a slice of them -/
def dPackEntrys (xs : List PED) : D := .arr 4 xs.length (xs.flatMap fPackEntry)
theorem szL_fPackEntry (x : PED) : D.szL (fPackEntry x) = D.sz (intsD x.links) + D.sz (dOps x.ops) := by
  unfold fPackEntry
  simp only [szL_cons, szL_nil, sz_int, sz_str]
  omega

theorem rd_PackEntry {w : World} {lo hi n k c : Nat} {A : Option Addr} {xs : List PED} (h : D.rd w lo hi (dPackEntrys xs) (.slice A n c)) (hk : k < n) :
    ∃ (b o : Nat) (hl : k < xs.length) (A1 : Option Addr) (n1 c1 : Nat) (A3 : Option Addr) (n3 c3 : Nat), A = some ⟨b, o, none⟩ ∧ lo ≤ b ∧ b < hi ∧ w.cell? ⟨b, o + k * 4, none⟩ = some (.int .i64 xs[k].kind) ∧ w.cell? ⟨b, o + k * 4 + 1, none⟩ = some (.slice A1 n1 c1) ∧ w.cell? ⟨b, o + k * 4 + 2, none⟩ = some (.int .i64 xs[k].base) ∧ w.cell? ⟨b, o + k * 4 + 3, none⟩ = some (.slice A3 n3 c3) ∧ (n1 ≤ c1 ∧ c1 ≤ 9223372036854775807 ∧ D.rd w lo hi (intsD xs[k].links) (.slice A1 n1 c1)) ∧ (n3 ≤ c3 ∧ c3 ≤ 9223372036854775807 ∧ D.rd w lo hi (dOps xs[k].ops) (.slice A3 n3 c3)) := by
  have hn := h.len.1
  obtain ⟨b, o, hl, rfl, g1, g2, hc⟩ := h.at_ fPackEntry_len (by omega) (k := k) (by omega)
  obtain ⟨u0, hu0, hr0⟩ := hc 0 _ rfl
  obtain rfl := hr0.int_inv
  obtain ⟨u1, hu1, hr1⟩ := hc 1 _ rfl
  obtain ⟨A1, c1, rfl, hn1, hm1, hd1⟩ := D.rd.arr_inv hr1
  obtain ⟨u2, hu2, hr2⟩ := hc 2 _ rfl
  obtain rfl := hr2.int_inv
  obtain ⟨u3, hu3, hr3⟩ := hc 3 _ rfl
  obtain ⟨A3, c3, rfl, hn3, hm3, hd3⟩ := D.rd.arr_inv hr3
  exact ⟨b, o, hl, A1, _, c1, A3, _, c3, rfl, g1, g2, hu0, hu1, hu2, hu3, ⟨hn1, hm1, hd1⟩, ⟨hn3, hm3, hd3⟩⟩

theorem sz_PackEntry_get {xs : List PED} {x : PED} (hx : x ∈ xs) : D.szL (fPackEntry x) ≤ D.sz (dPackEntrys xs) := by
  unfold dPackEntrys
  rw [sz_arr]
  have := szL_get fPackEntry xs hx
  omega

set_option maxRecDepth 100000 in
set_option maxHeartbeats 1600000 in
theorem eqPackEntry_d (kind : Int) (links : List Int) (base : Int) (ops : List OpD) (A1 : Option Addr) (n1 c1 : Nat) (A3 : Option Addr) (n3 c3 : Nat) (B1 : Option Addr) (bn1 bc1 : Nat) (B3 : Option Addr) (bn3 bc3 : Nat) (w : World) (lo hi lo' hi' : Nat) (hh : hi ≤ w.heap.size) (hh' : hi' ≤ w.heap.size) (hr1 : D.rd w lo hi (intsD links) (.slice A1 n1 c1)) (hr3 : D.rd w lo hi (dOps ops) (.slice A3 n3 c3)) (hq1 : D.rd w lo' hi' (intsD links) (.slice B1 bn1 bc1)) (hq3 : D.rd w lo' hi' (dOps ops) (.slice B3 bn3 bc3)) :
    Calls Tryz.prog 32 #[.agg #[.int .i64 kind, .slice A1 n1 c1, .int .i64 base, .slice A3 n3 c3], .agg #[.int .i64 kind, .slice B1 bn1 bc1, .int .i64 base, .slice B3 bn3 bc3]] w fun e w' => e = .returned (.bool true) ∧ Below w.heap.size w w' := by

  have HR1 := Lib.hid hr1
  have HQ1 := Lib.hid hq1
  have HR3 := Lib.hid hr3
  have HQ3 := Lib.hid hq3
  clear hr1 hq1 hr3 hq3
  have he0 : (!(kind == kind)) = false := by simp
  have he2 : (!(base == base)) = false := by simp
  have HB0 : Hid (Below w.heap.size w ((w.alloc (.cells #[.int .i64 kind, .slice A1 n1 c1, .int .i64 base, .slice A3 n3 c3] 60)).alloc (.cells #[.int .i64 kind, .slice B1 bn1 bc1, .int .i64 base, .slice B3 bn3 bc3] 60))) := ((Below.refl _ _).alloc (Nat.le_refl _) _).alloc (by simp) _
  go_enter Tryz.func32, Tryz.ntmps32
  go_wp2_with fail
  refine (eqIntS_d links A1 B1 n1 bn1 c1 bc1 _ lo hi lo' hi' (HR1.out.below HB0.out hh) (HQ1.out.below HB0.out hh')).mono ?_
  rintro e w1 ⟨rfl, hw1⟩
  have HB1 := Lib.hid (bel_tr HB0.out (Nat.le_refl _) hw1)
  obtain ⟨hcc1, hcf1⟩ := bcell hw1
  have hz1 : w.heap.size + 1 < w1.heap.size := by have h1 := hw1.size; simp at h1; omega
  have hz1b : w.heap.size < w1.heap.size := by omega
  clear hw1
  go_wp2_with fail
  refine (eqOpS_d ops A3 B3 n3 bn3 c3 bc3 _ lo hi lo' hi' (Nat.le_trans hh HB1.out.size) (Nat.le_trans hh' HB1.out.size) (HR3.out.below HB1.out hh) (HQ3.out.below HB1.out hh')).mono ?_
  rintro e w2 ⟨rfl, hw2⟩
  have HB2 := Lib.hid (bel_tr HB1.out (Nat.le_refl _) hw2)
  obtain ⟨hcc2, hcf2⟩ := bcell hw2
  have hz2 : w.heap.size + 1 < w2.heap.size := by have h1 := hw2.size; omega
  have hz2b : w.heap.size < w2.heap.size := by omega
  clear hw2
  go_wp2_with fail
  go_ret
  exact ⟨rfl, HB2.out⟩

set_option maxRecDepth 100000 in
set_option maxHeartbeats 1600000 in
theorem eqPackEntryS_d (xs : List PED) (A A' : Option Addr) (n n' c c' : Nat) (w : World) (lo hi lo' hi' : Nat) (hh : hi ≤ w.heap.size) (hh' : hi' ≤ w.heap.size) (h : D.rd w lo hi (dPackEntrys xs) (.slice A n c)) (h' : D.rd w lo' hi' (dPackEntrys xs) (.slice A' n' c')) :
    Calls Tryz.prog 10 #[.slice A n c, .slice A' n' c'] w fun e w' => e = .returned (.bool true) ∧ Below w.heap.size w w' := by
  have h1 := h.len
  have h2 := h'.len
  obtain rfl : n' = n := h2.1.trans h1.1.symm
  have hn63 : n' ≤ 9223372036854775807 := by omega
  have HI := Lib.hid h
  have HJ := Lib.hid h'
  clear h h' h1 h2
  go_enter Tryz.func10, Tryz.ntmps10
  go_wp2_with fail
  go_loopw [5] (fun i wr => ∃ k : Nat, k ≤ n' ∧ i = .int .i64 k ∧ Below w.heap.size w wr) (fun i _ => n' - (intOf i).toNat)
  case atStart => exact ⟨0, Nat.zero_le _, rfl, Below.refl _ _⟩
  case round =>
    obtain ⟨k, hk, rfl, hb⟩ := hrel
    have HB := Lib.hid hb
    have hwsz := hb.size
    clear hb
    by_cases hlt : k < n'
    · obtain ⟨b, o, hl, A1, n1, c1, A3, n3, c3, rfl, _, hbh, hc0, hc1, hc2, hc3, ⟨hn1, hm1, hr1⟩, ⟨hn3, hm3, hr3⟩⟩ := rd_PackEntry (HI.out.below HB.out hh) hlt
      obtain ⟨b', o', hl', B1, bn1, bc1, B3, bn3, bc3, rfl, _, hbh', hd0, hd1, hd2, hd3, ⟨-, -, hq1⟩, ⟨-, -, hq3⟩⟩ := rd_PackEntry (HJ.out.below HB.out hh') hlt
      have HR1 := Lib.hid hr1.drew
      have HQ1 := Lib.hid hq1.drew
      have HR3 := Lib.hid hr3.drew
      have HQ3 := Lib.hid hq3.drew
      clear hr1 hq1 hr3 hq3
      go_wp2_with fail
      go_still_tail 8, (by kernel_rfl)
      change wpList _ _ _ _ _ wr.drew
      go_wp2_with fail
      refine (eqPackEntry_d xs[k].kind xs[k].links xs[k].base xs[k].ops A1 n1 c1 A3 n3 c3 B1 bn1 bc1 B3 bn3 bc3 wr.drew lo hi lo' hi' (Nat.le_trans hh HB.out.size) (Nat.le_trans hh' HB.out.size) HR1.out HR3.out HQ1.out HQ3.out).mono ?_
      rintro e w2 ⟨rfl, hb2⟩
      have HB2 : Hid (Below w.heap.size w w2) := HB.out.drew.trans (hb2.mono hwsz)
      clear hb2
      go_wp2_with fail
      go_roundw
      case rel => exact ⟨k + 1, by omega, by go_num, HB2.out⟩
      case measure => simp [intOf]; omega
    · have hkn : k = n' := by omega
      subst hkn
      go_wp2_with fail
      go_ret
      exact ⟨rfl, HB.out⟩

end Go.Proofs.YtnaeglfochnikaaGreat

namespace Go.Proofs.YtnaeglfochnikaaGreat
set_option linter.unusedVariables false
set_option linter.unusedSimpArgs false
open Go.RowKit

theorem own_blkP {w : World} {base size n g : Nat} {e : TypeId} {v : Value} {cs : List Value} (h : w.ownsRow base e size v n cs) (hv : v.ownBlock = some g) : ∃ cur, w.heap[g]? = some (.cells cur e (0, 0)) := by
  rcases h.2 with ⟨rfl, _⟩ | ⟨g', cap, cur, rfl, hb, hh, _⟩
  · cases hv
  · have e1 : (Value.slice (some ⟨g', 0, none⟩) n cap).ownBlock = some g' := rfl
    rw [e1] at hv
    injection hv with hv
    subst hv
    exact ⟨cur, hh⟩
theorem own_row_atP {w : World} {base n c size : Nat} {e : TypeId} {A : Option Addr} {cs : List Value} (h : w.ownsRow base e size (.slice A n c) n cs) (hn : 0 < n) : ∃ g, A = some ⟨g, 0, none⟩ ∧ base ≤ g ∧ g < w.heap.size := by
  have h0 := h
  rcases h.2 with ⟨h1, rfl⟩ | ⟨g, cap, cur, h1, h2, _⟩
  · injection h1 with _ h3 _; omega
  · injection h1 with h3 h4 h5
    subst h3
    exact ⟨g, rfl, h2, (h0.lt g rfl).2⟩

/-- block g is the node of an entry: linked to ptr, with the text t -/
def NodeAt (w : World) (lo hi : Nat) (p : PED) (ptr : Option Addr) (t : ByteArray) (g : Nat) : Prop :=
  ∃ A n c B m d, w.heap[g]? = some (.cells #[.int .i64 p.kind, .slice A n c, .int .i64 p.base, .slice B m d, .pointer ptr, .string t] 92 (0, 0)) ∧ D.rd w lo hi (intsD p.links) (.slice A n c) ∧ D.rd w lo hi (dOps p.ops) (.slice B m d)
theorem NodeAt.keep {w w' : World} {lo hi g : Nat} {p : PED} {ptr : Option Addr} {t : ByteArray} (h : NodeAt w lo hi p ptr t g) (hg : w'.heap[g]? = w.heap[g]?) (hk : ∀ q : Addr, lo ≤ q.block → q.block < hi → w'.cell? q = w.cell? q) : NodeAt w' lo hi p ptr t g := by
  obtain ⟨A, n, c, B, m, d, h1, h2, h3⟩ := h
  exact ⟨A, n, c, B, m, d, hg.trans h1, D.rd.keep hk (Nat.le_refl _) (Nat.le_refl _) _ _ h2, D.rd.keep hk (Nat.le_refl _) (Nat.le_refl _) _ _ h3⟩
theorem NodeAt.lt {w : World} {lo hi g : Nat} {p : PED} {ptr : Option Addr} {t : ByteArray} (h : NodeAt w lo hi p ptr t g) : g < w.heap.size := by
  obtain ⟨A, n, c, B, m, d, h1, h2, h3⟩ := h
  rcases Nat.lt_or_ge g w.heap.size with hlt | hge
  · exact hlt
  · rw [Array.getElem?_eq_none hge] at h1; cases h1
/-- where a base's node lies -/
def ptrOf (gs : List Nat) (b : Int) : Option Addr := if 0 ≤ b then some ⟨gs.getD b.toNat 0, 0, none⟩ else none
/-- the nodes of the first entries, in blocks gs from base on -/
def Nodes (w : World) (lo hi base : Nat) (ps : List PED) (T : Nat → ByteArray) (gs : List Nat) : Prop :=
  gs.Nodup ∧ ∀ i (h : i < gs.length), ∃ hp : i < ps.length, base ≤ gs[i] ∧ NodeAt w lo hi ps[i] (ptrOf gs ps[i].base) (T i) gs[i]
section
variable {w w' : World} {lo hi base : Nat} {ps : List PED} {T : Nat → ByteArray} {gs : List Nat}
theorem Nodes.keep (h : Nodes w lo hi base ps T gs) (hg : ∀ g ∈ gs, w'.heap[g]? = w.heap[g]?) (hk : ∀ q : Addr, lo ≤ q.block → q.block < hi → w'.cell? q = w.cell? q) : Nodes w' lo hi base ps T gs :=
  ⟨h.1, fun i hi' => by
    obtain ⟨hp, hb, hn⟩ := h.2 i hi'
    exact ⟨hp, hb, hn.keep (hg _ (List.getElem_mem hi')) hk⟩⟩
theorem Nodes.lt (h : Nodes w lo hi base ps T gs) : ∀ g ∈ gs, base ≤ g ∧ g < w.heap.size := fun g hg => by
  obtain ⟨i, hi', rfl⟩ := List.getElem_of_mem hg
  obtain ⟨hp, hb, hn⟩ := h.2 i hi'
  exact ⟨hb, hn.lt⟩
theorem Nodes.below (h : Nodes w lo hi base ps T gs) (hb : Below w.heap.size w w') (hh : hi ≤ w.heap.size) : Nodes w' lo hi base ps T gs :=
  h.keep (fun g hg => hb.block g (h.lt g hg).2) (fun q _ hq => hb.cell (Nat.lt_of_lt_of_le hq hh))
theorem Nodes.drewN (h : Nodes w lo hi base ps T gs) (k : Nat) : Nodes (w.drewN k) lo hi base ps T gs := h.keep (fun _ _ => rfl) (fun _ _ _ => rfl)
/-- no node is the block of a row of another type -/
theorem Nodes.ne_own (h : Nodes w lo hi base ps T gs) {b size n : Nat} {e : TypeId} {v : Value} {cs : List Value} (ho : w.ownsRow b e size v n cs) (he : e ≠ 92) : ∀ g ∈ gs, v.ownBlock ≠ some g := fun g hg hv => by
  obtain ⟨i, hi', rfl⟩ := List.getElem_of_mem hg
  obtain ⟨hp, hb, A, n, c, B, m, d, h1, -⟩ := h.2 i hi'
  obtain ⟨cur, hc⟩ := own_blkP ho hv
  rw [h1] at hc
  injection hc with hc
  injection hc with _ hc _
  exact he hc.symm
theorem Nodes.add {g : Nat} {p : PED} (h : Nodes w lo hi base ps T gs) (hk : gs.length < ps.length) (hp : ps[gs.length] = p) (hb : base ≤ g) (hg : g ∉ gs) (hbase : 0 ≤ p.base → p.base.toNat < gs.length) (hn : NodeAt w lo hi p (ptrOf gs p.base) (T gs.length) g) (hall : ∀ i (h : i < gs.length) (h' : i < ps.length), 0 ≤ ps[i].base → ps[i].base.toNat < gs.length) : Nodes w lo hi base ps T (gs ++ [g]) := by
  have hptr : ∀ b : Int, (0 ≤ b → b.toNat < gs.length) → ptrOf (gs ++ [g]) b = ptrOf gs b := fun b hb => by
    unfold ptrOf
    by_cases h0 : 0 ≤ b
    · rw [if_pos h0, if_pos h0, List.getD_eq_getElem?_getD, List.getD_eq_getElem?_getD, List.getElem?_append_left (hb h0)]
    · rw [if_neg h0, if_neg h0]
  refine ⟨List.nodup_append.2 ⟨h.1, by simp, fun a ha b hb' e => ?_⟩, fun i hi' => ?_⟩
  · rw [List.mem_singleton] at hb'
    subst e hb'
    exact hg ha
  · by_cases hin : i < gs.length
    · obtain ⟨hp', hb', hn'⟩ := h.2 i hin
      refine ⟨hp', by rw [List.getElem_append_left hin]; exact hb', ?_⟩
      rw [List.getElem_append_left hin, hptr _ (hall i hin hp')]
      exact hn'
    · have : i = gs.length := by simp at hi'; omega
      subst this
      refine ⟨hk, by simpa using hb, ?_⟩
      rw [hp, hptr _ hbase]
      simpa using hn
end

/-- what linkPack leaves -/
def LinkR (ps : List PED) (n : Nat) (w : World) (lo hi : Nat) (e : Ending) (w' : World) : Prop :=
  Below w.heap.size w w' ∧ ((linkB ps = false ∧ e = .returned (.tuple #[.slice none 0 0, .bool false])) ∨
    (linkB ps = true ∧ ∃ A c gs, gs.length = n ∧ n ≤ c ∧ c ≤ 9223372036854775807 ∧ w'.ownsRow w.heap.size 90 1 (.slice A n c) n (gs.map fun g => .pointer (some ⟨g, 0, none⟩)) ∧ Nodes w' lo hi w.heap.size ps (fun _ => ByteArray.empty) gs ∧
      e = .returned (.tuple #[.slice A n c, .bool true])))

theorem Tryz.elPk : ElemT Tryz.prog 89 90 (.pointer none) 1 8 := ⟨Tryz.underlying89, by kernel_rfl, rfl, by decide⟩
theorem base_at {ps : List PED} {k : Nat} (h : k < ps.length) : baseAt ps k = ps[k].base := by unfold baseAt; rw [List.getD_eq_getElem?_getD, List.getElem?_eq_getElem h]; rfl
theorem ops_at {ps : List PED} {k : Nat} (h : k < ps.length) : opsAt ps k = ps[k].ops := by unfold opsAt; rw [List.getD_eq_getElem?_getD, List.getElem?_eq_getElem h]; rfl
theorem obj_at {ps : List PED} {k : Nat} (h : k < ps.length) : objP ps k = ⟨ps[k].kind, ps[k].links, txtP ps k⟩ := by unfold objP; rw [List.getD_eq_getElem?_getD, List.getElem?_eq_getElem h]; rfl
theorem base_all {ps : List PED} {k : Nat} (h : allTo (baseOk ps) k = true) : ∀ i, i < k → ∀ h' : i < ps.length, -1 ≤ ps[i].base ∧ ps[i].base ≤ (i : Int) - 1 := fun i hi h' => by
  have := (allTo_iff _ _).1 h i hi
  rw [baseOk_iff, base_at h'] at this
  exact this

theorem heap_newn {W : World} {o : Obj} {g : Nat} (h : W.heap.size = g) : (W.alloc o).heap[g]? = some o := by subst h; exact heap_alloc_new W o
theorem ptr_yes {gs : List Nat} {b : Int} {j : Nat} (hb : b = j) (hj : j < gs.length) : ptrOf gs b = some ⟨gs[j], 0, none⟩ := by
  subst hb
  unfold ptrOf
  rw [if_pos (by omega), List.getD_eq_getElem?_getD, Int.toNat_natCast, List.getElem?_eq_getElem hj]; rfl
theorem ptr_no {gs : List Nat} {b : Int} (hb : b < 0) : ptrOf gs b = none := by unfold ptrOf; rw [if_neg (by omega)]
/-- the node of one entry more has been made and its row has grown -/
theorem link_next {w wr W w4 : World} {lo hi k n1 c1 n3 c3 : Nat} {A1 A3 ptr : Option Addr} {ps : List PED} {gs : List Nat} {v : Value} {cs : List Value} {q : Int} {t : ByteArray} (hg4 : W.grownBy w4 v.ownBlock) (hG : gs.length = k) (hND : Nodes wr lo hi w.heap.size ps (fun _ => t) gs) (hO : wr.ownsRow w.heap.size 90 1 v k cs)
    (hws : w.heap.size ≤ wr.heap.size) (hh : hi ≤ w.heap.size) (hW : wr.heap.size + 1 < W.heap.size) (hWb : Below wr.heap.size wr W) (hl : k < ps.length) (hT : allTo (baseOk ps) (k + 1) = true) (hq : ps[k].base = q) (hp : ptrOf gs q = ptr)
    (hWn : W.heap[wr.heap.size + 1]? = some (.cells #[.int .i64 ps[k].kind, .slice A1 n1 c1, .int .i64 q, .slice A3 n3 c3, .pointer ptr, .string t] 92 (0, 0)))
    (hr1 : D.rd wr lo hi (intsD ps[k].links) (.slice A1 n1 c1)) (hr3 : D.rd wr lo hi (dOps ps[k].ops) (.slice A3 n3 c3)) : Nodes w4 lo hi w.heap.size ps (fun _ => t) (gs ++ [wr.heap.size + 1]) := by
  have hbase := base_all hT
  have hW4 : ∀ g, g < W.heap.size → v.ownBlock ≠ some g → w4.heap[g]? = W.heap[g]? := fun g hg hne => hg4.block g hg (fun e => hne e.symm)
  have hlow : ∀ g, v.ownBlock = some g → w.heap.size ≤ g ∧ g < wr.heap.size := fun g hg => hO.lt g hg
  have hrk : ∀ q : Addr, lo ≤ q.block → q.block < hi → w4.cell? q = wr.cell? q := fun q _ hq =>
    (World.cell?_of_block (hW4 q.block (by have := hWb.size; omega) (fun e => by have := (hlow _ e).1; omega))).trans (hWb.cell (by omega))
  have h1 : Nodes w4 lo hi w.heap.size ps (fun _ => t) gs := by
    refine hND.keep (fun g hg => ?_) hrk
    have hgl := (hND.lt g hg).2
    exact (hW4 g (by omega) (hND.ne_own hO (by decide) g hg)).trans (hWb.block g hgl)
  subst hG hq
  refine h1.add hl rfl (by omega) (fun hm => by have := (hND.lt _ hm).2; omega) (fun h0 => by have := (hbase gs.length (by omega) hl).2; omega) ?_ (fun i hi' h' h0 => by have := (hbase i (by omega) h').2; omega)
  refine ⟨A1, n1, c1, A3, n3, c3, ?_, D.rd.keep hrk (Nat.le_refl _) (Nat.le_refl _) _ _ hr1, D.rd.keep hrk (Nat.le_refl _) (Nat.le_refl _) _ _ hr3⟩
  rw [hp]
  exact (hW4 _ hW (fun e => by have := (hlow _ e).2; omega)).trans hWn

theorem Nodes.cells {w : World} {lo hi base : Nat} {ps : List PED} {T : Nat → ByteArray} {gs : List Nat} (h : Nodes w lo hi base ps T gs) {i : Nat} (hi' : i < gs.length) :
    ∃ (hp : i < ps.length) (A : Option Addr) (n c : Nat) (B : Option Addr) (m d : Nat), gs[i] < w.heap.size ∧ w.cell? ⟨gs[i], 0, none⟩ = some (.int .i64 ps[i].kind) ∧ w.cell? ⟨gs[i], 1, none⟩ = some (.slice A n c) ∧ w.cell? ⟨gs[i], 3, none⟩ = some (.slice B m d) ∧
      w.cell? ⟨gs[i], 4, none⟩ = some (.pointer (ptrOf gs ps[i].base)) ∧ w.cell? ⟨gs[i], 5, none⟩ = some (.string (T i)) ∧ w.frozen? ⟨gs[i], 5, none⟩ = false ∧ D.rd w lo hi (intsD ps[i].links) (.slice A n c) ∧ D.rd w lo hi (dOps ps[i].ops) (.slice B m d) := by
  obtain ⟨hp, hb, hn⟩ := h.2 i hi'
  have hl := hn.lt
  obtain ⟨A, n, c, B, m, d, h1, h2, h3⟩ := hn
  exact ⟨hp, A, n, c, B, m, d, hl, cell_of_row _ _ 0 _ _ _ h1, cell_of_row _ _ 1 _ _ _ h1, cell_of_row _ _ 3 _ _ _ h1, cell_of_row _ _ 4 _ _ _ h1, cell_of_row _ _ 5 _ _ _ h1, frozen_of_row _ _ 5 _ _ h1, h2, h3⟩

set_option maxHeartbeats 1600000 in
set_option maxRecDepth 100000 in
theorem depth_any (ps : List PED) (w : World) (lo hi base i : Nat) (T : Nat → ByteArray) (gs : List Nat) (h : Nodes w lo hi base ps T gs) (hB : allTo (baseOk ps) gs.length = true) (hi' : i < gs.length) (hl : gs.length ≤ 1048576) :
    Calls Tryz.prog 66 #[.pointer (some ⟨gs[i], 0, none⟩)] w fun e w' => e = .returned (.int .i64 ((depP ps i : Nat) : Int)) ∧ w = w' := by
  have HND := Lib.hid h
  have HA := Lib.hid hB
  have hdi := depP_le (ps := ps) i
  clear h hB
  obtain ⟨q, hq⟩ : ∃ q, q = depP ps i := ⟨_, rfl⟩
  rw [← hq] at hdi ⊢
  have HQ := Lib.hid hq
  clear hq
  go_enter Tryz.func66, Tryz.ntmps66
  go_wp2_with fail
  go_loop [0, 3] (fun p n => ∃ (j : Nat) (hj : j < gs.length) (d : Nat), p = .pointer (some ⟨gs[j], 0, none⟩) ∧ n = .int .i64 d ∧ d ≤ q ∧ Hid (d + depP ps j = q)) (fun _ n => q - (intOf n).toNat)
  case atStart => exact ⟨i, hi', 0, rfl, rfl, by omega, by show _ = _; rw [HQ.out]; omega⟩
  case round =>
    obtain ⟨j, hj, d, rfl, rfl, hd, HD⟩ := hrel
    obtain ⟨hp, A, n, c, B, m, d', hlt, -, -, -, hc4, -, -, -, -⟩ := HND.out.cells hj
    have hbj := base_all HA.out j hj hp
    by_cases h0 : 0 ≤ ps[j].base
    · have hjl : ps[j].base.toNat < gs.length := by omega
      rw [ptr_yes (gs := gs) (j := ps[j].base.toNat) (by omega) hjl] at hc4
      have hdp := depP_yes (ps := ps) (i := j) (by rw [base_at hp]; exact h0) ((allTo_iff _ _).1 HA.out j hj)
      rw [base_at hp] at hdp
      have HP : Hid (d + 1 + depP ps ps[j].base.toNat = q) := by show _ = _; have := HD.out; omega
      have hd2 : d + 1 ≤ q := by have := HD.out; omega
      clear hdp hbj h0
      go_wp2_with fail
      go_round
      case rel => exact ⟨ps[j].base.toNat, hjl, d + 1, rfl, by go_num, hd2, HP⟩
      case measure => simp [intOf]; omega
    · rw [ptr_no (gs := gs) (by omega)] at hc4
      have HP : Hid (d = q) := by
        show d = q
        have h1 := HD.out
        rw [depP_no (by rw [base_at hp]; omega)] at h1
        exact h1
      clear hbj h0
      go_wp2_with fail
      go_ret
      exact ⟨ret_int (by rw [HP.out]), rfl⟩

end Go.Proofs.YtnaeglfochnikaaGreat

namespace Go.Proofs.YtnaeglfochnikaaGreat
set_option linter.unusedVariables false
set_option linter.unusedSimpArgs false
open Go.RowKit

/-- a row of the call's own, and one element more whose parts have been made -/
def GrowP (w : World) (base : Nat) (E : TypeId) (m : Nat) (v : Value) (n : Nat) (es ds : List D) (us : List Value) : Prop :=
  ∃ vs F G, w.ownsRow base E m v n vs ∧ D.ownL w es F vs ∧ D.ownL w ds G us ∧ (F ++ G).Nodup ∧ (∀ g ∈ F ++ G, base ≤ g ∧ g < w.heap.size) ∧ ∀ g, v.ownBlock = some g → g ∉ F ++ G
section
variable {w w' : World} {base m n : Nat} {E : TypeId} {v v' : Value} {es ds : List D} {us : List Value}
theorem GrowP.mk_ (h : Grow w base E m v n es) (hb : Below w.heap.size w w') (hd : OwnL w' w.heap.size ds us) (hbs : base ≤ w.heap.size) : GrowP w' base E m v n es ds us := by
  obtain ⟨vs, F, h1, h2, h3, h4, h5⟩ := h
  obtain ⟨G, k1, k2, k3⟩ := hd
  refine ⟨vs, F, G, own_below h1 hb, D.ownL.keep es F vs (fun g hg => hb.block g (h4 g hg).2) h2, k3, List.nodup_append.2 ⟨h3, k1, fun a ha b hb' e => ?_⟩, fun g hg => ?_, fun g hv hg => ?_⟩
  · subst e; have := (h4 a ha).2; have := (k2 a hb').1; omega
  · rcases List.mem_append.1 hg with hg | hg
    · exact ⟨(h4 g hg).1, Nat.lt_of_lt_of_le (h4 g hg).2 hb.size⟩
    · exact ⟨Nat.le_trans hbs (k2 g hg).1, (k2 g hg).2⟩
  · rcases List.mem_append.1 hg with hg | hg
    · exact h5 g hv hg
    · have := (h1.lt g hv).2; have := (k2 g hg).1; omega
theorem GrowP.grown {row : Option Nat} (h : GrowP w base E m v n es ds us) (hg : w.grownBy w' row) (hr : ∀ g, row = some g → g < base) : GrowP w' base E m v n es ds us := by
  obtain ⟨vs, F, G, h1, h2, h3, h4, h5, h6⟩ := h
  have hk : ∀ g ∈ F ++ G, w'.heap[g]? = w.heap[g]? := fun g hg' => hg.block g (h5 g hg').2 (fun e => by have := hr g e.symm; have := (h5 g hg').1; omega)
  refine ⟨vs, F, G, h1.kept hg ?_, D.ownL.keep es F vs (fun g hg' => hk g (List.mem_append_left _ hg')) h2, D.ownL.keep ds G us (fun g hg' => hk g (List.mem_append_right _ hg')) h3, h4, fun g hg' => ⟨(h5 g hg').1, Nat.lt_of_lt_of_le (h5 g hg').2 hg.size⟩, h6⟩
  rcases hv : v.ownBlock with _ | k
  · exact .inl rfl
  · refine .inr (fun e => ?_)
    have := hr k e.symm
    have := (h1.lt k hv).1; omega
theorem GrowP.fresh (h : GrowP w base E m v n es ds us) (hb : Below w.heap.size w w') : GrowP w' base E m v n es ds us := h.grown (grown_none hb none) (fun _ e => by cases e)
theorem GrowP.alloc (h : GrowP w base E m v n es ds us) (o : Obj) : GrowP (w.alloc o) base E m v n es ds us := h.fresh ((Below.refl _ _).alloc (Nat.le_refl _) o)
theorem GrowP.set (h : GrowP w base E m v n es ds us) {g : Nat} (hg : g < base) (j : Nat) (u : Value) : GrowP (w.setCell ⟨g, j, none⟩ u) base E m v n es ds us := h.grown (set_grownL w g j u) (fun q hq => by injection hq with hq; omega)
theorem GrowP.row (h : GrowP w base E m v n es ds us) : ∃ cs, w.ownsRow base E m v n cs := by
  obtain ⟨vs, F, G, h1, _⟩ := h
  exact ⟨vs, h1⟩
theorem GrowP.part (h : GrowP w base E m v n es ds us) : OwnL w base ds us := by
  obtain ⟨vs, F, G, h1, h2, h3, h4, h5, h6⟩ := h
  exact ⟨G, (List.nodup_append.1 h4).2.1, fun g hg => h5 g (List.mem_append_right _ hg), h3⟩
/-- .. and now it has been appended -/
theorem GrowP.done {vs : List Value} {ob : Obj} {k : Nat} (h : ∃ F G, w.ownsRow base E m v n vs ∧ D.ownL w es F vs ∧ D.ownL w ds G us ∧ (F ++ G).Nodup ∧ (∀ g ∈ F ++ G, base ≤ g ∧ g < w.heap.size) ∧ ∀ g, v.ownBlock = some g → g ∉ F ++ G)
    (hown : w'.ownsRow base E m v' (n + k) (vs ++ us)) (hg : (w.alloc ob).grownBy w' v.ownBlock) (hat : v'.ownBlock = v.ownBlock ∨ v'.ownBlock = some (w.alloc ob).heap.size) : Grow w' base E m v' (n + k) (es ++ ds) := by
  obtain ⟨F, G, h1, h2, h3, h4, h5, h6⟩ := h
  have hsz : (w.alloc ob).heap.size = w.heap.size + 1 := by simp
  have hkeep : ∀ g ∈ F ++ G, w'.heap[g]? = w.heap[g]? := fun g hg' =>
    (hg.block g (by have := (h5 g hg').2; omega) (fun e => h6 g e.symm hg')).trans (Below.heap_alloc _ _ _ (h5 g hg').2)
  refine ⟨vs ++ us, F ++ G, hown, D.ownL.app (D.ownL.keep es F vs (fun g hg' => hkeep g (List.mem_append_left _ hg')) h2) (D.ownL.keep ds G us (fun g hg' => hkeep g (List.mem_append_right _ hg')) h3), h4, fun g hg' => ⟨(h5 g hg').1, Nat.lt_of_lt_of_le (h5 g hg').2 (by have := hg.size; omega)⟩, fun g hv hg' => ?_⟩
  rcases hat with hat | hat
  · exact h6 g (by rw [← hat]; exact hv) hg'
  · rw [hat] at hv
    injection hv with hv
    have := (h5 g hg').2; omega
end

end Go.Proofs.YtnaeglfochnikaaGreat

namespace Go.Proofs.YtnaeglfochnikaaGreat
set_option linter.unusedVariables false
set_option linter.unusedSimpArgs false
open Go.RowKit

theorem Tryz.elObjP : ElemT Tryz.prog 28 52 (.agg #[.int .i64 0, .slice none 0 0, .string ⟨#[]⟩]) 3 48 := ⟨Tryz.underlying28, by kernel_rfl, rfl, by decide⟩

end Go.Proofs.YtnaeglfochnikaaGreat
