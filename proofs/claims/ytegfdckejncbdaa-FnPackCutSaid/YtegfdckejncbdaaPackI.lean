/-
  The walks of the program's linkPack, depth and baseText: entries of a pack that are linked to their bases. Condition: lengths are small.
-/
import Derived.Test.YtegfdckejncbdaaTPackEntry
import Derived.Test.YtegfdckejncbdaaObjI
import Derived.Test.YtegfdckejncbdaaAppAt
namespace Go.Proofs.Ytegfdckejncbdaa
set_option linter.unusedVariables false
set_option linter.unusedSimpArgs false
open Go.RowKit

theorem own_blk {w : World} {base size n g : Nat} {e : TypeId} {v : Value} {cs : List Value} (h : w.ownsRow base e size v n cs) (hv : v.ownBlock = some g) : ∃ cur, w.heap[g]? = some (.cells cur e (0, 0)) := by
  rcases h.2 with ⟨rfl, _⟩ | ⟨g', cap, cur, rfl, hb, hh, _⟩
  · cases hv
  · have e1 : (Value.slice (some ⟨g', 0, none⟩) n cap).ownBlock = some g' := rfl
    rw [e1] at hv
    injection hv with hv
    subst hv
    exact ⟨cur, hh⟩
theorem own_row_at {w : World} {base n c size : Nat} {e : TypeId} {A : Option Addr} {cs : List Value} (h : w.ownsRow base e size (.slice A n c) n cs) (hn : 0 < n) : ∃ g, A = some ⟨g, 0, none⟩ ∧ base ≤ g ∧ g < w.heap.size := by
  have h0 := h
  rcases h.2 with ⟨h1, rfl⟩ | ⟨g, cap, cur, h1, h2, _⟩
  · injection h1 with _ h3 _; omega
  · injection h1 with h3 h4 h5
    subst h3
    exact ⟨g, rfl, h2, (h0.lt g rfl).2⟩

/-- block g is the node of an entry: linked to ptr, with the text t -/
def NodeAt (w : World) (lo hi : Nat) (p : PED) (ptr : Option Addr) (t : ByteArray) (g : Nat) : Prop :=
  ∃ A n c B m d, w.heap[g]? = some (.cells #[.int .i64 p.kind, .slice A n c, .int .i64 p.base, .slice B m d, .pointer ptr, .string t] 65 (0, 0)) ∧ D.rd w lo hi (intsD p.links) (.slice A n c) ∧ D.rd w lo hi (dOps p.ops) (.slice B m d)
theorem NodeAt.keep {w w' : World} {lo hi g : Nat} {p : PED} {ptr : Option Addr} {t : ByteArray} (h : NodeAt w lo hi p ptr t g) (hg : w'.heap[g]? = w.heap[g]?) (hk : ∀ q : Addr, lo ≤ q.block → q.block < hi → w'.cell? q = w.cell? q) : NodeAt w' lo hi p ptr t g := by
  obtain ⟨A, n, c, B, m, d, h1, h2, h3⟩ := h
  exact ⟨A, n, c, B, m, d, hg.trans h1, D.rd.keep hk (Nat.le_refl _) (Nat.le_refl _) _ _ h2, D.rd.keep hk (Nat.le_refl _) (Nat.le_refl _) _ _ h3⟩
theorem NodeAt.lt {w : World} {lo hi g : Nat} {p : PED} {ptr : Option Addr} {t : ByteArray} (h : NodeAt w lo hi p ptr t g) : g < w.heap.size := by
  obtain ⟨A, n, c, B, m, d, h1, h2, h3⟩ := h
  rcases Nat.lt_or_ge g w.heap.size with hlt | hge
  · exact hlt
  · rw [Array.getElem?_eq_none hge] at h1; cases h1
/-- where a base's node lies -/
def ptrOf (gs : List Nat) (b : Int) : Option Addr := if 0 ≤ b then some ⟨gs.getD b.toNat 0, 0, none⟩ else none
/-- the nodes of the first entries, in blocks gs from base on -/
def Nodes (w : World) (lo hi base : Nat) (ps : List PED) (T : Nat → ByteArray) (gs : List Nat) : Prop :=
  gs.Nodup ∧ ∀ i (h : i < gs.length), ∃ hp : i < ps.length, base ≤ gs[i] ∧ NodeAt w lo hi ps[i] (ptrOf gs ps[i].base) (T i) gs[i]
section
variable {w w' : World} {lo hi base : Nat} {ps : List PED} {T : Nat → ByteArray} {gs : List Nat}
theorem Nodes.keep (h : Nodes w lo hi base ps T gs) (hg : ∀ g ∈ gs, w'.heap[g]? = w.heap[g]?) (hk : ∀ q : Addr, lo ≤ q.block → q.block < hi → w'.cell? q = w.cell? q) : Nodes w' lo hi base ps T gs :=
  ⟨h.1, fun i hi' => by
    obtain ⟨hp, hb, hn⟩ := h.2 i hi'
    exact ⟨hp, hb, hn.keep (hg _ (List.getElem_mem hi')) hk⟩⟩
theorem Nodes.lt (h : Nodes w lo hi base ps T gs) : ∀ g ∈ gs, base ≤ g ∧ g < w.heap.size := fun g hg => by
  obtain ⟨i, hi', rfl⟩ := List.getElem_of_mem hg
  obtain ⟨hp, hb, hn⟩ := h.2 i hi'
  exact ⟨hb, hn.lt⟩
theorem Nodes.below (h : Nodes w lo hi base ps T gs) (hb : Below w.heap.size w w') (hh : hi ≤ w.heap.size) : Nodes w' lo hi base ps T gs :=
  h.keep (fun g hg => hb.block g (h.lt g hg).2) (fun q _ hq => hb.cell (Nat.lt_of_lt_of_le hq hh))
theorem Nodes.drewN (h : Nodes w lo hi base ps T gs) (k : Nat) : Nodes (w.drewN k) lo hi base ps T gs := h.keep (fun _ _ => rfl) (fun _ _ _ => rfl)
/-- no node is the block of a row of another type -/
theorem Nodes.ne_own (h : Nodes w lo hi base ps T gs) {b size n : Nat} {e : TypeId} {v : Value} {cs : List Value} (ho : w.ownsRow b e size v n cs) (he : e ≠ 65) : ∀ g ∈ gs, v.ownBlock ≠ some g := fun g hg hv => by
  obtain ⟨i, hi', rfl⟩ := List.getElem_of_mem hg
  obtain ⟨hp, hb, A, n, c, B, m, d, h1, -⟩ := h.2 i hi'
  obtain ⟨cur, hc⟩ := own_blk ho hv
  rw [h1] at hc
  injection hc with hc
  injection hc with _ hc _
  exact he hc.symm
theorem Nodes.add {g : Nat} {p : PED} (h : Nodes w lo hi base ps T gs) (hk : gs.length < ps.length) (hp : ps[gs.length] = p) (hb : base ≤ g) (hg : g ∉ gs) (hbase : 0 ≤ p.base → p.base.toNat < gs.length) (hn : NodeAt w lo hi p (ptrOf gs p.base) (T gs.length) g) (hall : ∀ i (h : i < gs.length) (h' : i < ps.length), 0 ≤ ps[i].base → ps[i].base.toNat < gs.length) : Nodes w lo hi base ps T (gs ++ [g]) := by
  have hptr : ∀ b : Int, (0 ≤ b → b.toNat < gs.length) → ptrOf (gs ++ [g]) b = ptrOf gs b := fun b hb => by
    unfold ptrOf
    by_cases h0 : 0 ≤ b
    · rw [if_pos h0, if_pos h0, List.getD_eq_getElem?_getD, List.getD_eq_getElem?_getD, List.getElem?_append_left (hb h0)]
    · rw [if_neg h0, if_neg h0]
  refine ⟨List.nodup_append.2 ⟨h.1, by simp, fun a ha b hb' e => ?_⟩, fun i hi' => ?_⟩
  · rw [List.mem_singleton] at hb'
    subst e hb'
    exact hg ha
  · by_cases hin : i < gs.length
    · obtain ⟨hp', hb', hn'⟩ := h.2 i hin
      refine ⟨hp', by rw [List.getElem_append_left hin]; exact hb', ?_⟩
      rw [List.getElem_append_left hin, hptr _ (hall i hin hp')]
      exact hn'
    · have : i = gs.length := by simp at hi'; omega
      subst this
      refine ⟨hk, by simpa using hb, ?_⟩
      rw [hp, hptr _ hbase]
      simpa using hn
end

/-- what linkPack leaves -/
def LinkR (ps : List PED) (n : Nat) (w : World) (lo hi : Nat) (e : Ending) (w' : World) : Prop :=
  Below w.heap.size w w' ∧ ((linkB ps = false ∧ e = .returned (.tuple #[.slice none 0 0, .bool false])) ∨
    (linkB ps = true ∧ ∃ A c gs, gs.length = n ∧ n ≤ c ∧ c ≤ 9223372036854775807 ∧ w'.ownsRow w.heap.size 60 1 (.slice A n c) n (gs.map fun g => .pointer (some ⟨g, 0, none⟩)) ∧ Nodes w' lo hi w.heap.size ps (fun _ => ByteArray.empty) gs ∧
      e = .returned (.tuple #[.slice A n c, .bool true])))

theorem Try.elPk : ElemT Try.prog 57 60 (.pointer none) 1 8 := ⟨Try.underlying57, by kernel_rfl, rfl, by decide⟩
theorem base_at {ps : List PED} {k : Nat} (h : k < ps.length) : baseAt ps k = ps[k].base := by unfold baseAt; rw [List.getD_eq_getElem?_getD, List.getElem?_eq_getElem h]; rfl
theorem ops_at {ps : List PED} {k : Nat} (h : k < ps.length) : opsAt ps k = ps[k].ops := by unfold opsAt; rw [List.getD_eq_getElem?_getD, List.getElem?_eq_getElem h]; rfl
theorem obj_at {ps : List PED} {k : Nat} (h : k < ps.length) : objP ps k = ⟨ps[k].kind, ps[k].links, txtP ps k⟩ := by unfold objP; rw [List.getD_eq_getElem?_getD, List.getElem?_eq_getElem h]; rfl
theorem base_all {ps : List PED} {k : Nat} (h : allTo (baseOk ps) k = true) : ∀ i, i < k → ∀ h' : i < ps.length, -1 ≤ ps[i].base ∧ ps[i].base ≤ (i : Int) - 1 := fun i hi h' => by
  have := (allTo_iff _ _).1 h i hi
  rw [baseOk_iff, base_at h'] at this
  exact this

theorem heap_newn {W : World} {o : Obj} {g : Nat} (h : W.heap.size = g) : (W.alloc o).heap[g]? = some o := by subst h; exact heap_alloc_new W o
theorem ptr_yes {gs : List Nat} {b : Int} {j : Nat} (hb : b = j) (hj : j < gs.length) : ptrOf gs b = some ⟨gs[j], 0, none⟩ := by
  subst hb
  unfold ptrOf
  rw [if_pos (by omega), List.getD_eq_getElem?_getD, Int.toNat_natCast, List.getElem?_eq_getElem hj]; rfl
theorem ptr_no {gs : List Nat} {b : Int} (hb : b < 0) : ptrOf gs b = none := by unfold ptrOf; rw [if_neg (by omega)]
/-- the node of one entry more has been made and its row has grown -/
theorem link_next {w wr W w4 : World} {lo hi k n1 c1 n3 c3 : Nat} {A1 A3 ptr : Option Addr} {ps : List PED} {gs : List Nat} {v : Value} {cs : List Value} {q : Int} {t : ByteArray} (hg4 : W.grownBy w4 v.ownBlock) (hG : gs.length = k) (hND : Nodes wr lo hi w.heap.size ps (fun _ => t) gs) (hO : wr.ownsRow w.heap.size 60 1 v k cs)
    (hws : w.heap.size ≤ wr.heap.size) (hh : hi ≤ w.heap.size) (hW : wr.heap.size + 1 < W.heap.size) (hWb : Below wr.heap.size wr W) (hl : k < ps.length) (hT : allTo (baseOk ps) (k + 1) = true) (hq : ps[k].base = q) (hp : ptrOf gs q = ptr)
    (hWn : W.heap[wr.heap.size + 1]? = some (.cells #[.int .i64 ps[k].kind, .slice A1 n1 c1, .int .i64 q, .slice A3 n3 c3, .pointer ptr, .string t] 65 (0, 0)))
    (hr1 : D.rd wr lo hi (intsD ps[k].links) (.slice A1 n1 c1)) (hr3 : D.rd wr lo hi (dOps ps[k].ops) (.slice A3 n3 c3)) : Nodes w4 lo hi w.heap.size ps (fun _ => t) (gs ++ [wr.heap.size + 1]) := by
  have hbase := base_all hT
  have hW4 : ∀ g, g < W.heap.size → v.ownBlock ≠ some g → w4.heap[g]? = W.heap[g]? := fun g hg hne => hg4.block g hg (fun e => hne e.symm)
  have hlow : ∀ g, v.ownBlock = some g → w.heap.size ≤ g ∧ g < wr.heap.size := fun g hg => hO.lt g hg
  have hrk : ∀ q : Addr, lo ≤ q.block → q.block < hi → w4.cell? q = wr.cell? q := fun q _ hq =>
    (World.cell?_of_block (hW4 q.block (by have := hWb.size; omega) (fun e => by have := (hlow _ e).1; omega))).trans (hWb.cell (by omega))
  have h1 : Nodes w4 lo hi w.heap.size ps (fun _ => t) gs := by
    refine hND.keep (fun g hg => ?_) hrk
    have hgl := (hND.lt g hg).2
    exact (hW4 g (by omega) (hND.ne_own hO (by decide) g hg)).trans (hWb.block g hgl)
  subst hG hq
  refine h1.add hl rfl (by omega) (fun hm => by have := (hND.lt _ hm).2; omega) (fun h0 => by have := (hbase gs.length (by omega) hl).2; omega) ?_ (fun i hi' h' h0 => by have := (hbase i (by omega) h').2; omega)
  refine ⟨A1, n1, c1, A3, n3, c3, ?_, D.rd.keep hrk (Nat.le_refl _) (Nat.le_refl _) _ _ hr1, D.rd.keep hrk (Nat.le_refl _) (Nat.le_refl _) _ _ hr3⟩
  rw [hp]
  exact (hW4 _ hW (fun e => by have := (hlow _ e).2; omega)).trans hWn

set_option maxHeartbeats 3200000 in
set_option maxRecDepth 100000 in
theorem linkPack_any (ps : List PED) (A : Option Addr) (n c : Nat) (w : World) (lo hi : Nat) (hh : hi ≤ w.heap.size) (hn : n ≤ 1048576) (h : D.rd w lo hi (dPackEntrys ps) (.slice A n c)) :
    Calls Try.prog 31 #[.slice A n c] w fun e w' => LinkR ps n w lo hi e w' := by
  have HI := Lib.hid h
  have HN := Lib.hid h.len.1
  clear h
  go_enter Try.func31, Try.ntmps31
  go_wp2_with fail
  go_loopw [4, 10] (fun v i wr => ∃ (k : Nat) (gs : List Nat), k ≤ n ∧ i = .int .i64 k ∧ Hid (gs.length = k) ∧ Hid (allTo (baseOk ps) k = true) ∧ wr.ownsRow w.heap.size 60 1 v k (gs.map fun g => .pointer (some ⟨g, 0, none⟩)) ∧ Nodes wr lo hi w.heap.size ps (fun _ => ByteArray.empty) gs ∧ Below w.heap.size w wr) (fun _ i _ => n - (intOf i).toNat)
  case atStart => exact ⟨0, [], Nat.zero_le _, rfl, rfl, rfl, ⟨by simp, .inl ⟨rfl, rfl⟩⟩, ⟨List.nodup_nil, fun i h => absurd h (by simp)⟩, Below.refl _ _⟩
  case round =>
    obtain ⟨k, gs, hk, rfl, HG, HT, hown, hnd, hb⟩ := hrel
    obtain ⟨V, cv, rfl, hcv1, hcv2, -⟩ := Rd.of_own hown
    unfold maxLen at hcv2
    have HO := Lib.hid hown
    have HND := Lib.hid hnd
    have HB := Lib.hid hb
    have hwsz := hb.size
    clear hown hnd hb
    by_cases hlt : k < n
    · obtain ⟨b, o, hl, A1, n1, c1, A3, n3, c3, rfl, _, hbh, hc0, hc1, hc2, hc3, ⟨-, -, hr1⟩, ⟨-, -, hr3⟩⟩ := rd_PackEntry (HI.out.below HB.out hh) hlt
      have HR1 := Lib.hid hr1
      have HR3 := Lib.hid hr3
      clear hr1 hr3
      rcases hv : inR ps[k].base (-1) ((k : Int) - 1) with _ | _
      · have hno : Hid (linkB ps = false) := allTo_no hl (by unfold baseOk; rw [base_at hl]; exact hv)
        go_wp2_with (go_at_call 40; refine (inRange_any _ _ _ _).mono ?_; rintro e w' ⟨rfl, rfl⟩)
        go_ret2
        exact ⟨HB.out.alloc hwsz _, .inl ⟨hno.out, rfl⟩⟩
      · have HT2 : Hid (allTo (baseOk ps) (k + 1) = true) := allTo_succ HT.out (by unfold baseOk; rw [base_at hl]; exact hv)
        have hbd := (inR_iff _ _ _).1 hv
        have hbd1 := hbd.1
        have hbd2 := hbd.2
        clear hbd
        by_cases hb0 : 0 ≤ ps[k].base
        · obtain ⟨j, hj⟩ : ∃ j : Nat, ps[k].base = j := ⟨ps[k].base.toNat, by omega⟩
          rw [hj] at hc2 hv hbd1 hbd2
          have HJ := Lib.hid hj
          have hjk : j < k := by omega
          have hjl : j < gs.length := by rw [HG.out]; exact hjk
          obtain ⟨g, rfl, hg1, hg2⟩ := own_row_at HO.out (by omega)
          have hrow : wr.cell? ⟨g, j, none⟩ = some (.pointer (some ⟨gs[j], 0, none⟩)) := by
            rw [HO.out.cellAt j (by omega), List.getElem?_map, List.getElem?_eq_getElem hjl]; rfl
          have HP := Lib.hid (ptr_yes (gs := gs) rfl hjl)
          clear hj hb0
          go_wp2_with (first | (go_at_call 40; refine (inRange_any _ _ _ _).mono ?_; rintro e w' ⟨rfl, rfl⟩) | (at_builtin; go_must (refine wpList_app_at Try.elPk (m := 1) (news := [.pointer (some ⟨wr.heap.size + 1, 0, none⟩)]) (((HO.out.alloc _).alloc _).alloc _) (rd_newn (by simp) [.pointer (some ⟨wr.heap.size + 1, 0, none⟩)] 60) rfl (by simp [Value.oneCell']) (by unfold maxLen; omega) (by omega) (by first | (simp; done) | (simp; omega)) rfl rfl rfl rfl ?_); intro v4 w4 hown4 hg4 hat4; have HN4 := Lib.hid (link_next hg4 HG.out HND.out HO.out hwsz hh (by first | (simp; done) | (simp; omega)) ((((Below.refl _ _).alloc (Nat.le_refl _) _).alloc (by simp) _).alloc (by first | (simp; done) | (simp; omega)) _) hl HT2.out HJ.out HP.out ((Below.heap_alloc _ _ _ (by simp)).trans (heap_newn (by simp))) HR1.out HR3.out); have HB4 := Lib.hid (below_app (((HB.out.alloc hwsz _).alloc (by first | (simp; done) | (simp; omega)) _).alloc (by first | (simp; done) | (simp; omega)) _) (Nat.le_refl _) (by first | (simp; done) | (simp; omega)) (((HO.out.alloc _).alloc _).alloc _) hg4); have HO4 := Lib.hid hown4; clear hown4 hg4 hat4))
          go_roundw
          case rel => exact ⟨k + 1, gs ++ [wr.heap.size + 1], by omega, by go_num, by show _ = _; rw [List.length_append, HG.out]; rfl, HT2, by rw [List.map_append]; exact HO4.out, HN4.out, HB4.out⟩
          case measure => simp [intOf]; omega
        · have hb1 : ps[k].base < 0 := by omega
          have HP := Lib.hid (ptr_no (gs := gs) hb1)
          clear hb0
          go_wp2_with (first | (go_at_call 40; refine (inRange_any _ _ _ _).mono ?_; rintro e w' ⟨rfl, rfl⟩) | (at_builtin; go_must (refine wpList_app_at Try.elPk (m := 1) (news := [.pointer (some ⟨wr.heap.size + 1, 0, none⟩)]) (((HO.out.alloc _).alloc _).alloc _) (rd_newn (by simp) [.pointer (some ⟨wr.heap.size + 1, 0, none⟩)] 60) rfl (by simp [Value.oneCell']) (by unfold maxLen; omega) (by omega) (by first | (simp; done) | (simp; omega)) rfl rfl rfl rfl ?_); intro v4 w4 hown4 hg4 hat4; have HN4 := Lib.hid (link_next hg4 HG.out HND.out HO.out hwsz hh (by first | (simp; done) | (simp; omega)) ((((Below.refl _ _).alloc (Nat.le_refl _) _).alloc (by simp) _).alloc (by first | (simp; done) | (simp; omega)) _) hl HT2.out rfl HP.out ((Below.heap_alloc _ _ _ (by simp)).trans (heap_newn (by simp))) HR1.out HR3.out); have HB4 := Lib.hid (below_app (((HB.out.alloc hwsz _).alloc (by first | (simp; done) | (simp; omega)) _).alloc (by first | (simp; done) | (simp; omega)) _) (Nat.le_refl _) (by first | (simp; done) | (simp; omega)) (((HO.out.alloc _).alloc _).alloc _) hg4); have HO4 := Lib.hid hown4; clear hown4 hg4 hat4))
          go_roundw
          case rel => exact ⟨k + 1, gs ++ [wr.heap.size + 1], by omega, by go_num, by show _ = _; rw [List.length_append, HG.out]; rfl, HT2, by rw [List.map_append]; exact HO4.out, HN4.out, HB4.out⟩
          case measure => simp [intOf]; omega
    · have hkn : k = n := by omega
      subst hkn
      have HY : Hid (linkB ps = true) := by show allTo _ _ = _; rw [← HN.out]; exact HT.out
      go_wp2_with fail
      go_ret2
      exact ⟨HB.out, .inr ⟨HY.out, V, cv, gs, HG.out, hcv1, hcv2, HO.out, HND.out, rfl⟩⟩

theorem Nodes.cells {w : World} {lo hi base : Nat} {ps : List PED} {T : Nat → ByteArray} {gs : List Nat} (h : Nodes w lo hi base ps T gs) {i : Nat} (hi' : i < gs.length) :
    ∃ (hp : i < ps.length) (A : Option Addr) (n c : Nat) (B : Option Addr) (m d : Nat), gs[i] < w.heap.size ∧ w.cell? ⟨gs[i], 0, none⟩ = some (.int .i64 ps[i].kind) ∧ w.cell? ⟨gs[i], 1, none⟩ = some (.slice A n c) ∧ w.cell? ⟨gs[i], 3, none⟩ = some (.slice B m d) ∧
      w.cell? ⟨gs[i], 4, none⟩ = some (.pointer (ptrOf gs ps[i].base)) ∧ w.cell? ⟨gs[i], 5, none⟩ = some (.string (T i)) ∧ w.frozen? ⟨gs[i], 5, none⟩ = false ∧ D.rd w lo hi (intsD ps[i].links) (.slice A n c) ∧ D.rd w lo hi (dOps ps[i].ops) (.slice B m d) := by
  obtain ⟨hp, hb, hn⟩ := h.2 i hi'
  have hl := hn.lt
  obtain ⟨A, n, c, B, m, d, h1, h2, h3⟩ := hn
  exact ⟨hp, A, n, c, B, m, d, hl, cell_of_row _ _ 0 _ _ _ h1, cell_of_row _ _ 1 _ _ _ h1, cell_of_row _ _ 3 _ _ _ h1, cell_of_row _ _ 4 _ _ _ h1, cell_of_row _ _ 5 _ _ _ h1, frozen_of_row _ _ 5 _ _ h1, h2, h3⟩

set_option maxHeartbeats 1600000 in
set_option maxRecDepth 100000 in
theorem depth_any (ps : List PED) (w : World) (lo hi base i : Nat) (T : Nat → ByteArray) (gs : List Nat) (h : Nodes w lo hi base ps T gs) (hB : allTo (baseOk ps) gs.length = true) (hi' : i < gs.length) (hl : gs.length ≤ 1048576) :
    Calls Try.prog 35 #[.pointer (some ⟨gs[i], 0, none⟩)] w fun e w' => e = .returned (.int .i64 ((depP ps i : Nat) : Int)) ∧ w = w' := by
  have HND := Lib.hid h
  have HA := Lib.hid hB
  have hdi := depP_le (ps := ps) i
  clear h hB
  obtain ⟨q, hq⟩ : ∃ q, q = depP ps i := ⟨_, rfl⟩
  rw [← hq] at hdi ⊢
  have HQ := Lib.hid hq
  clear hq
  go_enter Try.func35, Try.ntmps35
  go_wp2_with fail
  go_loop [0, 3] (fun p n => ∃ (j : Nat) (hj : j < gs.length) (d : Nat), p = .pointer (some ⟨gs[j], 0, none⟩) ∧ n = .int .i64 d ∧ d ≤ q ∧ Hid (d + depP ps j = q)) (fun _ n => q - (intOf n).toNat)
  case atStart => exact ⟨i, hi', 0, rfl, rfl, by omega, by show _ = _; rw [HQ.out]; omega⟩
  case round =>
    obtain ⟨j, hj, d, rfl, rfl, hd, HD⟩ := hrel
    obtain ⟨hp, A, n, c, B, m, d', hlt, -, -, -, hc4, -, -, -, -⟩ := HND.out.cells hj
    have hbj := base_all HA.out j hj hp
    by_cases h0 : 0 ≤ ps[j].base
    · have hjl : ps[j].base.toNat < gs.length := by omega
      rw [ptr_yes (gs := gs) (j := ps[j].base.toNat) (by omega) hjl] at hc4
      have hdp := depP_yes (ps := ps) (i := j) (by rw [base_at hp]; exact h0) ((allTo_iff _ _).1 HA.out j hj)
      rw [base_at hp] at hdp
      have HP : Hid (d + 1 + depP ps ps[j].base.toNat = q) := by show _ = _; have := HD.out; omega
      have hd2 : d + 1 ≤ q := by have := HD.out; omega
      clear hdp hbj h0
      go_wp2_with fail
      go_round
      case rel => exact ⟨ps[j].base.toNat, hjl, d + 1, rfl, by go_num, hd2, HP⟩
      case measure => simp [intOf]; omega
    · rw [ptr_no (gs := gs) (by omega)] at hc4
      have HP : Hid (d = q) := by
        show d = q
        have h1 := HD.out
        rw [depP_no (by rw [base_at hp]; omega)] at h1
        exact h1
      clear hbj h0
      go_wp2_with fail
      go_ret
      exact ⟨ret_int (by rw [HP.out]), rfl⟩

set_option maxHeartbeats 1600000 in
set_option maxRecDepth 100000 in
theorem baseText_any (ps : List PED) (w : World) (lo hi base i : Nat) (T : Nat → ByteArray) (gs : List Nat) (h : Nodes w lo hi base ps T gs) (hB : allTo (baseOk ps) gs.length = true) (hi' : i < gs.length) (hip : i < ps.length) (t : ByteArray) (ht : (if 0 ≤ ps[i].base then T ps[i].base.toNat else ByteArray.empty) = t) :
    Calls Try.prog 33 #[.pointer (some ⟨gs[i], 0, none⟩)] w fun e w' => e = .returned (.string t) ∧ w = w' := by
  subst ht
  obtain ⟨hp, A, n, c, B, m, d', hlt, -, -, -, hc4, -, -, -, -⟩ := h.cells hi'
  have hbj := base_all hB i hi' hip
  by_cases h0 : 0 ≤ ps[i].base
  · have hjl : ps[i].base.toNat < gs.length := by omega
    obtain ⟨hp2, A2, n2, c2, B2, m2, d2, hlt2, -, -, -, -, hc5, -, -, -⟩ := h.cells hjl
    rw [ptr_yes (gs := gs) (j := ps[i].base.toNat) (by omega) hjl] at hc4
    rw [if_pos h0]
    clear h hB hbj h0
    go_enter Try.func33, Try.ntmps33
    go_wp2_with fail
    go_ret
    exact ⟨rfl, rfl⟩
  · rw [ptr_no (gs := gs) (by omega)] at hc4
    rw [if_neg h0]
    clear h hB hbj h0
    go_enter Try.func33, Try.ntmps33
    go_wp2_with fail
    go_ret
    exact ⟨rfl, rfl⟩

end Go.Proofs.Ytegfdckejncbdaa
