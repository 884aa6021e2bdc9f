/-
  The walks of the program's Object.id and of the reference's l1Of: the id of a valid object. Condition: the object is valid.
  The walks of slices.Clone at a slice of objects and of the program's copyObjects: a copy in memory of its own. Condition: few objects.
  The walks of slices.Index and slices.Contains at a slice of ints: the least place at which a number stands, or -1. No condition.
  The walks of TermAgree and TermDecide, of the program and of the reference, and of what they call: what each returns for a slice of ints that reads as a list; nothing is written. No condition.
  The walks of the reference's l1Sorted and l91Id: ids in order, each once; a drawn id. Condition: the reader's place is small.
-/
import Derived.Test.YtnaeglfochnikaaGreatObjV
import Derived.Laws.IdiomStrings
import Derived.Test.YtnaeglfochnikaaGreatZ6
import Derived.Test.YtnaeglfochnikaaGreatTObject
import Derived.Test.YtnaeglfochnikaaGreatZ1
import Derived.Test.YtnaeglfochnikaaGreatZ4
namespace Go.Proofs.YtnaeglfochnikaaGreat
set_option linter.unusedVariables false
set_option linter.unusedSimpArgs false
open Go.RowKit

theorem idL_bd {o : ObjD} (h : objB o = true) (k : Nat) : 0 ≤ idLinks (100 * o.kind + o.links.length) (o.links.take k) ∧ idLinks (100 * o.kind + o.links.length) (o.links.take k) ≤ 990 := by
  obtain ⟨h1, h2, h3, h4⟩ := objB_and h
  have hm := idsB_mem h1
  have := idLinks_bd (o.links.take k) (100 * o.kind + o.links.length) (fun x hx => hm x (List.mem_of_mem_take hx)) (by omega)
  exact ⟨this.1, this.2 (by omega)⟩
theorem idT_bd {o : ObjD} (h : objB o = true) (k : Nat) : 0 ≤ idText (idLinks (100 * o.kind + o.links.length) o.links) (o.text.data.toList.take k) ∧ idText (idLinks (100 * o.kind + o.links.length) o.links) (o.text.data.toList.take k) ≤ 990 := by
  have := idL_bd h o.links.length
  rw [List.take_of_length_le (Nat.le_refl _)] at this
  exact idText_bd _ _ this.1 this.2
theorem link_bd {o : ObjD} (h : objB o = true) {k : Nat} (hk : k < o.links.length) : 0 ≤ o.links[k] ∧ o.links[k] ≤ 990 := idsB_mem (objB_and h).1 _ (List.getElem_mem hk)

set_option maxHeartbeats 3200000 in
theorem l1Of_any (kind : Int) (links : List Int) (text : ByteArray) (A : Option Addr) (n c : Nat) (w : World) (lo hi : Nat) (hh : hi ≤ w.heap.size) (hv : objB ⟨kind, links, text⟩ = true) (h : D.rd w lo hi (intsD links) (.slice A n c)) :
    Calls Tryz.prog 50 #[.agg #[.int .i64 kind, .slice A n c, .string text]] w fun e w' => e = .returned (.int .i64 (idB ⟨kind, links, text⟩)) ∧ Below w.heap.size w w' := by
  obtain ⟨-, hl4, ht8, hkd⟩ := objB_and hv
  have hl := h.ints.1
  have hn := h.len.2
  rw [← h.len.1] at hn
  have hn4 : n ≤ 4 := by rw [← hl]; exact hl4
  have hk1 : 1 ≤ kind := by rcases hkd with rfl | rfl | rfl <;> decide
  have hk3 : kind ≤ 3 := by rcases hkd with rfl | rfl | rfl <;> decide
  have ht : text.size ≤ 8 := ht8
  have HI : Hid (Ints (w.alloc (.cells #[.int .i64 kind, .slice A n c, .string text] 52)) lo hi A n links) := h.ints.alloc hh _
  have HB : Hid (Below w.heap.size w (w.alloc (.cells #[.int .i64 kind, .slice A n c, .string text] 52))) := (Below.refl _ _).alloc (Nat.le_refl _) _
  have HL := Lib.hid hl
  have HV := Lib.hid hv
  clear h hl hl4 ht8 hkd hv
  go_enter Tryz.func50, Tryz.ntmps50
  go_wp2_with fail
  go_loop [3, 4] (fun q i => ∃ (k : Nat) (x : Int), k ≤ n ∧ i = .int .i64 k ∧ q = .int .i64 x ∧ Hid (x = idLinks (100 * kind + links.length) (links.take k))) (fun _ i => n - (intOf i).toNat)
  case atStart => exact ⟨0, _, Nat.zero_le _, rfl, rfl, by show _ = _; rw [HL.out]; rfl⟩
  case round =>
    obtain ⟨k, x, hk, rfl, rfl, HX⟩ := hrel
    have hx0 : 0 ≤ x := by rw [HX.out]; exact (idL_bd HV.out k).1
    have hx1 : x ≤ 990 := by rw [HX.out]; exact (idL_bd HV.out k).2
    by_cases hlt : k < n
    · obtain ⟨b, o, hlk, rfl, _, hbh, hc⟩ := HI.out.int hlt
      have hb0 := (link_bd HV.out hlk).1
      have hb1 := (link_bd HV.out hlk).2
      dsimp only at hb0 hb1
      have HT := Lib.hid (idLinks_take hlk (100 * kind + links.length))
      go_wp2_with fail
      go_round
      case rel => exact ⟨k + 1, _, by omega, by go_num, rfl, by show _ = _; rw [HT.out, ← HX.out, Int.mul_comm 613 x]⟩
      case measure => simp [intOf]; omega
    · have hkn : k = n := by omega
      subst hkn
      have HX2 : Hid (x = idLinks (100 * kind + links.length) links) := by
        have := HX.out
        rw [List.take_of_length_le (by rw [HL.out]; exact Nat.le_refl _)] at this
        exact this
      clear HX
      go_wp2_with fail
      go_loop [3, 5] (fun q i => ∃ (j : Nat) (y : Int), j ≤ text.size ∧ i = .int .i64 j ∧ q = .int .i64 y ∧ Hid (y = idText (idLinks (100 * kind + links.length) links) (text.data.toList.take j))) (fun _ i => text.size - (intOf i).toNat)
      case atStart => exact ⟨0, _, Nat.zero_le _, rfl, rfl, by show _ = _; rw [← HX2.out]; rfl⟩
      case round =>
        obtain ⟨j, y, hj, rfl, rfl, HY⟩ := hrel
        have hy0 : 0 ≤ y := by rw [HY.out]; exact (idT_bd HV.out j).1
        have hy1 : y ≤ 990 := by rw [HY.out]; exact (idT_bd HV.out j).2
        by_cases hlt2 : j < text.size
        · have HT := Lib.hid (idText_take (xs := text.data.toList) (k := j) hlt2 (idLinks (100 * kind + links.length) links))
          have hbt : text[j].toNat ≤ 255 := by have := UInt8.toNat_lt text[j]; omega
          go_wp2_with fail
          go_round
          case rel => exact ⟨j + 1, _, by omega, by go_num, rfl, by show _ = _; rw [HT.out, ← HY.out, Int.mul_comm 257 y]; rfl⟩
          case measure => simp [intOf]; omega
        · have hjn : j = text.size := by omega
          subst hjn
          have hmod : y % 991 = y := by omega
          have HY2 : Hid (y = idB ⟨kind, links, text⟩) := by
            have := HY.out
            rw [List.take_of_length_le (show text.data.toList.length ≤ text.size from Nat.le_refl _)] at this
            exact this
          go_wp2_with fail
          go_ret
          exact ⟨ret_int (by first | exact HY2.out | (rw [hmod]; exact HY2.out)), HB.out⟩

theorem bytes_conv (W : World) (s : ByteArray) : ∃ (cap : Nat) (ob : Obj), (convert 9 38 (.string s)).run Tryz.prog W = .ok (.slice (some ⟨W.heap.size, 0, none⟩) s.size cap) (W.drew.alloc ob) ∧
    ∀ j (hj : j < s.size), (W.alloc ob).cell? ⟨W.heap.size, j, none⟩ = some (.int .u8 (s[j].toNat : Int)) := by
  refine ⟨_, _, run_bytes_of_string W 9 38 5 s Tryz.underlying9 Tryz.underlying38 Tryz.underlying5, fun j hj => ?_⟩
  rw [cell_of_row (W.alloc _) W.heap.size j _ _ _ (heap_alloc_new W _)]
  exact bytesRow_at s _ j hj

set_option maxHeartbeats 3200000 in
theorem objId_any (kind : Int) (links : List Int) (text : ByteArray) (A : Option Addr) (n c : Nat) (w : World) (lo hi : Nat) (hh : hi ≤ w.heap.size) (hv : objB ⟨kind, links, text⟩ = true) (h : D.rd w lo hi (intsD links) (.slice A n c)) :
    Calls Tryz.prog 73 #[.agg #[.int .i64 kind, .slice A n c, .string text]] w fun e w' => e = .returned (.int .i64 (idB ⟨kind, links, text⟩)) ∧ Below w.heap.size w w' := by
  obtain ⟨-, hl4, ht8, hkd⟩ := objB_and hv
  have hl := h.ints.1
  have hn := h.len.2
  rw [← h.len.1] at hn
  have hn4 : n ≤ 4 := by rw [← hl]; exact hl4
  have hk1 : 1 ≤ kind := by rcases hkd with rfl | rfl | rfl <;> decide
  have hk3 : kind ≤ 3 := by rcases hkd with rfl | rfl | rfl <;> decide
  have ht : text.size ≤ 8 := ht8
  have HI : Hid (Ints (w.alloc (.cells #[.int .i64 kind, .slice A n c, .string text] 52)) lo hi A n links) := h.ints.alloc hh _
  have HB : Hid (Below w.heap.size w (w.alloc (.cells #[.int .i64 kind, .slice A n c, .string text] 52))) := (Below.refl _ _).alloc (Nat.le_refl _) _
  have HL := Lib.hid hl
  have HV := Lib.hid hv
  clear h hl hl4 ht8 hkd hv
  obtain ⟨cap, ob, hcv, hcell⟩ := bytes_conv (w.alloc (.cells #[.int .i64 kind, .slice A n c, .string text] 52)) text
  have HC := Lib.hid hcell
  clear hcell
  go_enter Tryz.func73, Tryz.ntmps73
  go_wp2_with fail
  go_loop [3, 18] (fun q i => ∃ (k : Nat) (x : Int), k ≤ n ∧ i = .int .i64 k ∧ q = .int .i64 x ∧ Hid (x = idLinks (100 * kind + links.length) (links.take k))) (fun _ i => n - (intOf i).toNat)
  case atStart => exact ⟨0, _, Nat.zero_le _, rfl, rfl, by show _ = _; rw [HL.out]; rfl⟩
  case round =>
    obtain ⟨k, x, hk, rfl, rfl, HX⟩ := hrel
    have hx0 : 0 ≤ x := by rw [HX.out]; exact (idL_bd HV.out k).1
    have hx1 : x ≤ 990 := by rw [HX.out]; exact (idL_bd HV.out k).2
    by_cases hlt : k < n
    · obtain ⟨b, o, hlk, rfl, _, hbh, hc⟩ := HI.out.int hlt
      have hb0 := (link_bd HV.out hlk).1
      have hb1 := (link_bd HV.out hlk).2
      dsimp only at hb0 hb1
      have HT := Lib.hid (idLinks_take hlk (100 * kind + links.length))
      go_wp2_with fail
      go_round
      case rel => exact ⟨k + 1, _, by omega, by go_num, rfl, by show _ = _; rw [HT.out, ← HX.out]⟩
      case measure => simp [intOf]; omega
    · have hkn : k = n := by omega
      subst hkn
      have HX2 : Hid (x = idLinks (100 * kind + links.length) links) := by
        have := HX.out
        rw [List.take_of_length_le (by rw [HL.out]; exact Nat.le_refl _)] at this
        exact this
      clear HX
      go_wp2_with fail
      go_loop [3, 33] (fun q i => ∃ (j : Nat) (y : Int), j ≤ text.size ∧ i = .int .i64 j ∧ q = .int .i64 y ∧ Hid (y = idText (idLinks (100 * kind + links.length) links) (text.data.toList.take j))) (fun _ i => text.size - (intOf i).toNat)
      case atStart => exact ⟨0, _, Nat.zero_le _, rfl, rfl, by show _ = _; rw [← HX2.out]; rfl⟩
      case round =>
        obtain ⟨j, y, hj, rfl, rfl, HY⟩ := hrel
        have hy0 : 0 ≤ y := by rw [HY.out]; exact (idT_bd HV.out j).1
        have hy1 : y ≤ 990 := by rw [HY.out]; exact (idT_bd HV.out j).2
        by_cases hlt2 : j < text.size
        · have HT := Lib.hid (idText_take (xs := text.data.toList) (k := j) hlt2 (idLinks (100 * kind + links.length) links))
          have hbt : text[j].toNat ≤ 255 := by have := UInt8.toNat_lt text[j]; omega
          have hcj := HC.out j hlt2
          rw [World.size_alloc] at hcj
          go_wp2_with fail
          go_round
          case rel => exact ⟨j + 1, _, by omega, by go_num, rfl, by show _ = _; rw [HT.out, ← HY.out]; rfl⟩
          case measure => simp [intOf]; omega
        · have hjn : j = text.size := by omega
          subst hjn
          have HY2 : Hid (y = idB ⟨kind, links, text⟩) := by
            have := HY.out
            rw [List.take_of_length_le (show text.data.toList.length ≤ text.size from Nat.le_refl _)] at this
            exact this
          go_wp2_with fail
          go_ret
          exact ⟨ret_int HY2.out, (HB.out.alloc (by simp) _).drew⟩

end Go.Proofs.YtnaeglfochnikaaGreat

namespace Go.Proofs.YtnaeglfochnikaaGreat
set_option linter.unusedVariables false
set_option linter.unusedSimpArgs false
open Go.RowKit

theorem Tryz.elObj : ElemT Tryz.prog 28 52 (.agg #[.int .i64 0, .slice none 0 0, .string ⟨#[]⟩]) 3 48 := ⟨Tryz.underlying28, by kernel_rfl, rfl, by decide⟩
theorem D.rd.one {w : World} {lo hi : Nat} : ∀ {d : D} {v : Value}, D.rd w lo hi d v → v.oneCell' = true
  | .int n, v, h => by rw [h.int_inv]; rfl
  | .str s, v, h => by rw [h.str_inv.1]; rfl
  | .bool b, v, h => by rw [h.bool_inv]; rfl
  | .arr m n es, v, h => by obtain ⟨A, c, rfl, -⟩ := h.arr_inv; rfl
theorem D.rdL.one {w : World} {lo hi : Nat} : ∀ {ds : List D} {vs : List Value}, D.rdL w lo hi ds vs → ∀ u ∈ vs, u.oneCell' = true
  | [], vs, h, u, hu => by unfold D.rdL at h; subst h; cases hu
  | d :: ds, vs, h, u, hu => by
    unfold D.rdL at h
    obtain ⟨v, r, rfl, g2, g3⟩ := h
    rcases List.mem_cons.1 hu with rfl | hu
    · exact g2.one
    · exact D.rdL.one g3 u hu
theorem D.rdL.app_inv {w : World} {lo hi : Nat} : ∀ {a b : List D} {vs : List Value}, D.rdL w lo hi (a ++ b) vs → ∃ x y, vs = x ++ y ∧ D.rdL w lo hi a x ∧ D.rdL w lo hi b y
  | [], b, vs, h => ⟨[], vs, rfl, by unfold D.rdL; rfl, h⟩
  | d :: a, b, vs, h => by
    rw [List.cons_append] at h
    unfold D.rdL at h
    obtain ⟨v, r, rfl, g2, g3⟩ := h
    obtain ⟨x, y, rfl, h1, h2⟩ := D.rdL.app_inv g3
    exact ⟨v :: x, y, rfl, by unfold D.rdL; exact ⟨v, x, rfl, g2, h1⟩, h2⟩
theorem rd_parts {w : World} {lo hi m n n' c : Nat} {A : Option Addr} {es : List D} (h : D.rd w lo hi (.arr m n es) (.slice A n' c)) : ∃ vs, n' = n ∧ n ≤ c ∧ c ≤ 9223372036854775807 ∧ es.length = n * m ∧ vs.length = n * m ∧ Rd w lo hi A vs ∧ D.rdL w lo hi es vs := by
  unfold D.rd at h
  obtain ⟨A', c', vs, e, g2, g3, g4, g5, g6⟩ := h
  injection e with e1 e2 e3
  subst e1 e2 e3
  exact ⟨vs, rfl, g2, g3, g4, by rw [g6.length, g4], g5, g6⟩

set_option maxRecDepth 100000 in
set_option maxHeartbeats 800000 in
theorem cloneObj_row (os : List ObjD) (A : Option Addr) (n c : Nat) (w : World) (lo hi : Nat) (hh : hi ≤ w.heap.size) (hn : n ≤ 1048576) (h : D.rd w lo hi (dObjects os) (.slice A n c)) :
    Calls Tryz.prog 86 #[.slice A n c] w fun e w' => ∃ (B : Option Addr) (d : Nat) (cs : List Value), w'.ownsRow w.heap.size 52 3 (.slice B n d) n cs ∧ D.rdL w' lo hi (os.flatMap fObject) cs ∧ Below w.heap.size w w' ∧ e = .returned (.slice B n d) := by
  unfold dObjects at h
  obtain ⟨vs, hno, hnc, hc63, hel, hvl, hrd, hrl⟩ := rd_parts h
  have hn' : n = os.length := hno
  rw [← hn'] at hvl hnc
  have HR := Lib.hid hrd
  have HL := Lib.hid hrl
  have HV := Lib.hid hvl
  have qT : ∀ (w : World) (a : Option Addr) (n c n' c' : Nat), (binOp .eql 28 (.slice a n c) (.slice none n' c')).run Tryz.prog w = .ok (.bool a.isNone) w := fun w a n c n' c' => Lib.run_eql_slice_nil w _ _ a n c n' c' Tryz.underlying28
  clear h hel hrd hrl hno hvl
  rcases A with _ | ad
  · have hx0 : vs = [] := by
      rcases hxs : vs with _ | ⟨x, l⟩
      · rfl
      · obtain ⟨b, o, e, _⟩ := HR.out (by rw [hxs]; simp)
        cases e
    have hn0 : n = 0 := by
      have := HV.out
      rw [hx0] at this
      simp at this; omega
    have hos : os = [] := List.eq_nil_of_length_eq_zero (by omega)
    subst hn0 hos
    clear hn'
    go_enter Tryz.func86, Tryz.ntmps86
    go_wp2_with fail
    go_ret
    exact ⟨_, _, [], World.ownsRow_nil _ _ _ _, by unfold D.rdL; rfl, Below.refl _ _, rfl⟩
  · have hown0 := Lib.hid (own_nil_lit w 52 3)
    have h1 := Lib.hid (D.rdL.one HL.out)
    clear hn'
    go_enter Tryz.func86, Tryz.ntmps86
    go_wp2_with (at_builtin; go_must (refine wpList_app Tryz.elObj hown0.out (HR.out.alloc hh _) HV.out h1.out (by unfold maxLen; omega) (by omega) (by simp) rfl rfl rfl rfl ?_); intro v2 w2 hown2 hg2)
    rw [Nat.zero_add, List.nil_append] at hown2
    have HO := Lib.hid hown2
    have HB := Lib.hid (below_app ((Below.refl w.heap.size w).alloc (Nat.le_refl _) (.cells #[] 52)) (Nat.le_refl _) (by simp) hown0.out hg2)
    clear hown2 hg2
    obtain ⟨B, d, rfl, -, -, -⟩ := Rd.of_own HO.out
    go_ret
    exact ⟨B, d, vs, HO.out, D.rdL.keep (fun p _ hp => HB.out.cell (by omega)) (Nat.le_refl _) (Nat.le_refl _) _ _ HL.out, HB.out, rfl⟩

/-- a row of objects of the call's own: the first k have links of their own, the others still share them -/
def CopS (base lo hi : Nat) (wr : World) (v : Value) (n k : Nat) (os : List ObjD) : Prop :=
  ∃ us rest F, wr.ownsRow base 52 3 v n (us ++ rest) ∧ D.ownL wr ((os.take k).flatMap fObject) F us ∧ F.Nodup ∧ (∀ g ∈ F, base ≤ g ∧ g < wr.heap.size) ∧ (∀ g, v.ownBlock = some g → g ∉ F) ∧ D.rdL wr lo hi ((os.drop k).flatMap fObject) rest
theorem CopS.done {base lo hi n : Nat} {wr : World} {v : Value} {os : List ObjD} (h : CopS base lo hi wr v n n os) (hn : os.length = n) : Grow wr base 52 3 v n (os.flatMap fObject) := by
  obtain ⟨us, rest, F, h1, h2, h3, h4, h5, h6⟩ := h
  rw [List.drop_eq_nil_of_le (by omega), List.flatMap_nil] at h6
  rw [List.take_of_length_le (by omega)] at h2
  unfold D.rdL at h6
  subst h6
  rw [List.append_nil] at h1
  exact ⟨us, F, h1, h2, h3, h4, h5⟩
theorem CopS.at_ {base lo hi n k c : Nat} {wr : World} {A : Option Addr} {os : List ObjD} (h : CopS base lo hi wr (.slice A n c) n k os) (hhi : hi ≤ base) (hk : k < n) (hkl : k < os.length) :
    ∃ g A1 n1 c1, A = some ⟨g, 0, none⟩ ∧ base ≤ g ∧ g < wr.heap.size ∧ wr.cell? ⟨g, k * 3 + 1, none⟩ = some (.slice A1 n1 c1) ∧ wr.frozen? ⟨g, k * 3 + 1, none⟩ = false ∧ D.rd wr lo hi (intsD os[k].links) (.slice A1 n1 c1) ∧
      ∀ (w' : World) (B : Option Addr) (d : Nat), Below wr.heap.size wr w' → Own w' wr.heap.size (intsD os[k].links) (.slice B n1 d) → CopS base lo hi (w'.setCell ⟨g, k * 3 + 1, none⟩ (.slice B n1 d)) (.slice A n c) n (k + 1) os := by
  obtain ⟨us, rest, F, h1, h2, h3, h4, h5, h6⟩ := h
  have hrow : ∃ g, A = some ⟨g, 0, none⟩ ∧ base ≤ g ∧ g < wr.heap.size := by
    rcases h1.2 with ⟨e1, -⟩ | ⟨g, cap, cur, e1, hb, hh, hn', hm, hs, ht⟩
    · injection e1 with _ e2 _; omega
    · injection e1 with e1 e2 e3
      subst e1
      refine ⟨g, rfl, hb, (h1.lt g rfl).2⟩
  obtain ⟨g, rfl, hgb, hgl⟩ := hrow
  have hul : us.length = k * 3 := by rw [D.ownL.length h2, flat_lenG fObject 3 fObject_len, List.length_take, Nat.min_eq_left (by omega)]
  rw [List.drop_eq_getElem_cons hkl, List.flatMap_cons] at h6
  obtain ⟨x, rest', rfl, hx, hr⟩ := D.rdL.app_inv h6
  unfold fObject at hx
  unfold D.rdL at hx
  obtain ⟨v0, r0, rfl, hv0, hx⟩ := hx
  unfold D.rdL at hx
  obtain ⟨v1, r1, rfl, hv1, hx⟩ := hx
  unfold D.rdL at hx
  obtain ⟨v2, r2, rfl, hv2, hx⟩ := hx
  unfold D.rdL at hx
  subst hx
  obtain rfl := hv0.int_inv
  obtain ⟨rfl, ht⟩ := hv2.str_inv
  obtain ⟨A1, c1, rfl, hn1, hm1, hd1⟩ := D.rd.arr_inv hv1
  have hcl := own_cells h1 hk 1 (by omega)
  obtain ⟨u, hu, hf⟩ := hcl
  have hcell : wr.cell? ⟨g, k * 3 + 1, none⟩ = some (.slice A1 os[k].links.length c1) := by
    rw [h1.cellAt _ (by omega), List.getElem?_append_right (by omega), hul, Nat.add_sub_cancel_left]; rfl
  refine ⟨g, A1, _, c1, rfl, hgb, hgl, hcell, hf, hd1, fun w' B d hb hown => ?_⟩
  obtain ⟨G, k1, k2, k3⟩ := hown
  have hgG : g ∉ G := fun hm => by have := (k2 g hm).1; omega
  have hgF : g ∉ F := h5 g rfl
  have e1 : (us ++ ([Value.int .i64 os[k].kind, Value.slice A1 os[k].links.length c1, Value.string os[k].text] ++ rest')).set (k * 3 + 1) (.slice B os[k].links.length d) = (us ++ [Value.int .i64 os[k].kind, Value.slice B os[k].links.length d, Value.string os[k].text]) ++ rest' := by
    rw [List.set_append_right _ _ (by omega), hul, Nat.add_sub_cancel_left]
    simp
  have hst := ((own_below h1 hb).stored (k * 3 + 1) (.slice B os[k].links.length d)).1
  rw [e1] at hst
  have hkeep : ∀ q, q < w'.heap.size → q ≠ g → (w'.setCell ⟨g, k * 3 + 1, none⟩ (.slice B os[k].links.length d)).heap[q]? = w'.heap[q]? := fun q _ hq => Below.heap_setCell _ _ _ _ hq
  have hsz : (w'.setCell ⟨g, k * 3 + 1, none⟩ (.slice B os[k].links.length d)).heap.size = w'.heap.size := by simp [World.setCell]
  refine ⟨us ++ [.int .i64 os[k].kind, .slice B os[k].links.length d, .string os[k].text], rest', F ++ G, hst, ?_, ?_, ?_, ?_, ?_⟩
  · rw [List.take_succ_eq_append_getElem hkl, List.flatMap_append]
    refine D.ownL.app (D.ownL.keep _ F us (fun q hq => ?_) h2) ?_
    · rw [hkeep q (Nat.lt_of_lt_of_le (h4 q hq).2 hb.size) (fun e => hgF (e ▸ hq))]
      exact hb.block q (h4 q hq).2
    · have h7 := D.ownL.cons (D.own.int w' os[k].kind) (D.ownL.cons k3 (D.ownL.cons (D.own.str w' ht) (D.ownL.nil w')))
      have h8 : D.ownL w' (fObject os[k]) G [.int .i64 os[k].kind, .slice B os[k].links.length d, .string os[k].text] := by simpa [fObject] using h7
      rw [List.flatMap_cons, List.flatMap_nil, List.append_nil]
      exact D.ownL.keep _ G _ (fun q hq => hkeep q (k2 q hq).2 (fun e => hgG (e ▸ hq))) h8
  · refine List.nodup_append.2 ⟨h3, k1, fun a ha b hb' e => ?_⟩
    subst e; have := (h4 a ha).2; have := (k2 a hb').1; omega
  · intro q hq
    rw [hsz]
    rcases List.mem_append.1 hq with hq | hq
    · exact ⟨(h4 q hq).1, Nat.lt_of_lt_of_le (h4 q hq).2 hb.size⟩
    · exact ⟨by have := (k2 q hq).1; omega, (k2 q hq).2⟩
  · intro q hq hm
    injection hq with hq
    subst hq
    rcases List.mem_append.1 hm with hm | hm
    · exact hgF hm
    · exact hgG hm
  · refine D.rdL.keep (fun p _ hp => ?_) (Nat.le_refl _) (Nat.le_refl _) _ _ hr
    rw [World.cell?_setCell_other _ _ _ _ (fun e => by rw [← e] at hp; simp only at hp; omega)]
    exact hb.cell (by omega)

set_option maxRecDepth 100000 in
set_option maxHeartbeats 800000 in
theorem copyObjs_row (os : List ObjD) (A : Option Addr) (n c : Nat) (w : World) (lo hi : Nat) (hh : hi ≤ w.heap.size) (hn : n ≤ 1048576) (hl : ∀ o ∈ os, o.links.length ≤ 1048576) (h : D.rd w lo hi (dObjects os) (.slice A n c)) :
    Calls Tryz.prog 60 #[.slice A n c] w fun e w' => ∃ (B : Option Addr) (d : Nat), Grow w' w.heap.size 52 3 (.slice B n d) n (os.flatMap fObject) ∧ Below w.heap.size w w' ∧ e = .returned (.slice B n d) := by
  have HI := Lib.hid h
  have HN := Lib.hid h.len.1
  have HLK := Lib.hid hl
  clear h hl
  go_enter Tryz.func60, Tryz.ntmps60
  go_wp2_with fail
  refine (cloneObj_row os A n c _ lo hi hh hn HI.out).mono ?_
  rintro e w1 ⟨B, d, cs, hown, hrd, hb, rfl⟩
  have HS : Hid (CopS w.heap.size lo hi w1 (.slice B n d) n 0 os) := ⟨[], cs, [], hown, by rw [List.take_zero, List.flatMap_nil]; exact D.ownL.nil _, List.nodup_nil, fun _ h => (by cases h), fun _ _ h => (by cases h), by rw [List.drop_zero]; exact hrd⟩
  have HB := Lib.hid hb
  have hd1 := (Rd.of_own hown)
  obtain ⟨B', d', he, hnd, hdm, -⟩ := hd1
  injection he with he1 _ he2
  subst he1 he2
  unfold maxLen at hdm
  clear hown hrd hb
  go_wp2_with fail
  go_loopw [9] (fun i wr => ∃ k : Nat, k ≤ n ∧ i = .int .i64 k ∧ Hid (CopS w.heap.size lo hi wr (.slice B n d) n k os) ∧ Below w.heap.size w wr) (fun i _ => n - (intOf i).toNat)
  case atStart => exact ⟨0, Nat.zero_le _, rfl, HS.out, HB.out⟩
  case round =>
    obtain ⟨k, hk, rfl, HC, hbw⟩ := hrel
    have HBW := Lib.hid hbw
    have hwsz := hbw.size
    clear hbw HS HB
    by_cases hlt : k < n
    · have hkl : k < os.length := by rw [← HN.out]; exact hlt
      obtain ⟨g, A1, n1, c1, rfl, hgb, hgl, hcell, hf, hd1, hnext⟩ := HC.out.at_ hh hlt hkl
      have HD := Lib.hid hd1
      have HX := Lib.hid hnext
      have hn1 : n1 ≤ 1048576 := by rw [hd1.len.1]; exact HLK.out _ (List.getElem_mem hkl)
      clear hd1 hnext
      go_wp2_with fail
      refine (cloneInt_d os[k].links A1 n1 c1 wr lo hi (Nat.le_trans hh hwsz) hn1 HD.out).mono ?_
      rintro e w2 ⟨B2, d2, hown2, hb2, rfl⟩
      have HST := Lib.hid (HX.out w2 B2 d2 hb2 hown2)
      have hgl2 : g < w2.heap.size := Nat.lt_of_lt_of_le hgl hb2.size
      have hcell2 := (hb2.cell (p := ⟨g, k * 3 + 1, none⟩) hgl).trans hcell
      have hf2 := (hb2.frozen (p := ⟨g, k * 3 + 1, none⟩) hgl).trans hf
      have HB2 := Lib.hid ((bel_tr HBW.out (Nat.le_refl _) hb2).setCell (p := ⟨g, k * 3 + 1, none⟩) hgb (.slice B2 n1 d2))
      clear hown2 hb2 hcell hf
      go_wp2_with fail
      go_roundw
      case rel => exact ⟨k + 1, by omega, by go_num, HST.out, HB2.out⟩
      case measure => simp [intOf]; omega
    · have hkn : k = n := by omega
      subst hkn
      go_wp2_with fail
      go_ret
      exact ⟨B, d, HC.out.done HN.out.symm, HBW.out, rfl⟩

end Go.Proofs.YtnaeglfochnikaaGreat

namespace Go.Proofs.YtnaeglfochnikaaGreat
set_option linter.unusedVariables false
set_option linter.unusedSimpArgs false
open Go.RowKit

def hasB (x : Int) (xs : List Int) : Bool := decide (x ∈ xs)
def idxI (x : Int) (xs : List Int) : Int := if x ∈ xs then (xs.idxOf x : Int) else -1

theorem idxI_ge (x : Int) (xs : List Int) : decide (0 ≤ idxI x xs) = hasB x xs := by
  unfold idxI hasB
  by_cases h : x ∈ xs <;> simp [h]

theorem take_mem_succ {x : Int} {xs : List Int} {k : Nat} (hl : k < xs.length) (h : x ∉ xs.take k) (hne : ¬ xs[k] = x) : x ∉ xs.take (k + 1) := by
  rw [List.take_succ_eq_append_getElem hl]
  simp only [List.mem_append, List.mem_singleton, not_or]
  exact ⟨h, fun e => hne e.symm⟩
theorem idxI_at {x : Int} {xs : List Int} {k : Nat} (hl : k < xs.length) (h : x ∉ xs.take k) (he : xs[k] = x) : idxI x xs = k := by
  have hm : x ∈ xs := by rw [← he]; exact List.getElem_mem hl
  unfold idxI
  rw [if_pos hm]
  have e : xs = xs.take k ++ xs[k] :: xs.drop (k + 1) := by
    rw [← List.drop_eq_getElem_cons hl]; exact (List.take_append_drop k xs).symm
  have : xs.idxOf x = k := by
    rw [e, List.idxOf_append, if_neg h, he, List.idxOf_cons_self, List.length_take]
    omega
  rw [this]
theorem idxI_none {x : Int} {xs : List Int} {n : Nat} (hl : xs.length = n) (h : x ∉ xs.take n) : idxI x xs = -1 := by
  unfold idxI
  rw [List.take_of_length_le (by omega)] at h
  rw [if_neg h]
theorem hasB_at {x : Int} {xs : List Int} {k : Nat} (hl : k < xs.length) (he : xs[k] = x) : hasB x xs = true := by
  unfold hasB; rw [decide_eq_true_eq, ← he]; exact List.getElem_mem hl
theorem hasB_none {x : Int} {xs : List Int} {n : Nat} (hl : xs.length = n) (h : x ∉ xs.take n) : hasB x xs = false := by
  unfold hasB; rw [List.take_of_length_le (by omega)] at h; simpa using h

set_option maxHeartbeats 400000 in
theorem index_any (A : Option Addr) (n c : Nat) (xs : List Int) (x : Int) (w : World) (lo hi : Nat) (hn : n ≤ 9223372036854775807) (h : Ints w lo hi A n xs) :
    Calls Tryz.prog 76 #[.slice A n c, .int .i64 x] w fun e w' => e = .returned (.int .i64 (idxI x xs)) ∧ w = w' := by
  have HI := Lib.hid h
  clear h
  go_enter Tryz.func76, Tryz.ntmps76
  go_wp2
  go_loop [8] (fun i => ∃ k : Nat, k ≤ n ∧ i = .int .i64 k ∧ x ∉ xs.take k) (fun i => n - (intOf i).toNat)
  case atStart => exact ⟨0, Nat.zero_le _, rfl, by simp⟩
  case round =>
    obtain ⟨k, hk, rfl, hx⟩ := hrel
    by_cases hlt : k < n
    · obtain ⟨b, o, hl, rfl, _, _, hc⟩ := HI.out.int hlt
      by_cases he : xs[k] = x
      · have hd : (x == xs[k]) = true := by simp [he]
        go_wp2
        go_ret
        exact ⟨ret_int (idxI_at hl hx he).symm, rfl⟩
      · have hd : (x == xs[k]) = false := by simp [beq_eq_false_iff_ne]; exact fun e => he e.symm
        have hx' := take_mem_succ hl hx he
        go_wp2
        exact ⟨⟨k + 1, by omega, by go_num, hx'⟩, by simp [intOf]; omega⟩
    · have hkn : k = n := by omega
      subst hkn
      go_wp2
      go_ret
      exact ⟨ret_int (idxI_none HI.out.1 hx).symm, rfl⟩

set_option maxHeartbeats 400000 in
theorem contains_any (A : Option Addr) (n c : Nat) (xs : List Int) (x : Int) (w : World) (lo hi : Nat) (hn : n ≤ 9223372036854775807) (h : Ints w lo hi A n xs) :
    Calls Tryz.prog 45 #[.slice A n c, .int .i64 x] w fun e w' => e = .returned (.bool (hasB x xs)) ∧ w = w' := by
  have HI := Lib.hid h
  clear h
  have hg := Lib.hid (idxI_ge x xs)
  go_enter Tryz.func45, Tryz.ntmps45
  go_wp2_with (go_at_call 76; refine (index_any _ _ _ xs _ _ lo hi hn HI.out).mono ?_; rintro e w' ⟨rfl, rfl⟩)
  go_ret
  exact ⟨ret_bool hg.out, rfl⟩

end Go.Proofs.YtnaeglfochnikaaGreat

namespace Go.Proofs.YtnaeglfochnikaaGreat
set_option linter.unusedVariables false
set_option linter.unusedSimpArgs false
open Go.RowKit

def anyOut (xs : List Int) : Bool := xs.any fun s => !inR s 0 3
def agreeB (xs : List Int) : Bool := inR xs.length 1 3 && !anyOut xs && (!hasB 2 xs || (!hasB 3 xs && !hasB 0 xs))
def decideI (xs : List Int) : Int := if agreeB xs = true then (if hasB 2 xs = true then 2 else if hasB 3 xs = true ∨ hasB 0 xs = true then 3 else 0) else 0

set_option maxHeartbeats 400000 in
theorem l1Has_any (A : Option Addr) (n c : Nat) (xs : List Int) (x : Int) (w : World) (lo hi : Nat) (hn : n ≤ 9223372036854775807) (h : Ints w lo hi A n xs) :
    Calls Tryz.prog 55 #[.slice A n c, .int .i64 x] w fun e w' => e = .returned (.bool (hasB x xs)) ∧ w = w' := by
  have HI := Lib.hid h
  clear h
  go_enter Tryz.func55, Tryz.ntmps55
  go_wp2
  go_loop [5] (fun i => ∃ k : Nat, k ≤ n ∧ i = .int .i64 k ∧ x ∉ xs.take k) (fun i => n - (intOf i).toNat)
  case atStart => exact ⟨0, Nat.zero_le _, rfl, by simp⟩
  case round =>
    obtain ⟨k, hk, rfl, hx⟩ := hrel
    by_cases hlt : k < n
    · obtain ⟨b, o, hl, rfl, _, _, hc⟩ := HI.out.int hlt
      by_cases he : xs[k] = x
      · have hd : (xs[k] == x) = true := by simp [he]
        go_wp2
        go_ret
        exact ⟨ret_bool (hasB_at hl he).symm, rfl⟩
      · have hd : (xs[k] == x) = false := by simp [beq_eq_false_iff_ne]; exact he
        have hx' := take_mem_succ hl hx he
        go_wp2
        exact ⟨⟨k + 1, by omega, by go_num, hx'⟩, by simp [intOf]; omega⟩
    · have hkn : k = n := by omega
      subst hkn
      go_wp2
      go_ret
      exact ⟨ret_bool (hasB_none HI.out.1 hx).symm, rfl⟩

theorem anyOut_take_succ {xs : List Int} {k : Nat} (hl : k < xs.length) (h : anyOut (xs.take k) = false) (hv : inR xs[k] 0 3 = true) : anyOut (xs.take (k + 1)) = false := by
  rw [List.take_succ_eq_append_getElem hl]
  unfold anyOut at h ⊢
  rw [List.any_append, h]
  simp [hv]
theorem anyOut_at {xs : List Int} {k : Nat} (hl : k < xs.length) (hv : inR xs[k] 0 3 = false) : anyOut xs = true := by
  unfold anyOut
  rw [List.any_eq_true]
  exact ⟨xs[k], List.getElem_mem hl, by simp [hv]⟩
theorem anyOut_all {xs : List Int} {n : Nat} (hl : xs.length = n) (h : anyOut (xs.take n) = false) : anyOut xs = false := by
  rwa [List.take_of_length_le (by omega)] at h

/-- what IndexFunc answers: the least index that fits, or -1 -/
def idxB (p : Int → Bool) (xs : List Int) : Int := if xs.any p then (xs.findIdx p : Int) else -1
theorem idxB_ge (p : Int → Bool) (xs : List Int) : decide (0 ≤ idxB p xs) = xs.any p := by
  unfold idxB
  by_cases h : xs.any p = true
  · simp [h]
  · simp only [Bool.not_eq_true] at h; simp [h]

end Go.Proofs.YtnaeglfochnikaaGreat

namespace Go.Proofs.YtnaeglfochnikaaGreat
set_option linter.unusedVariables false
set_option linter.unusedSimpArgs false
open Go.RowKit

theorem own_blk {w : World} {base size n g : Nat} {e : TypeId} {v : Value} {cs : List Value} (h : w.ownsRow base e size v n cs) (hv : v.ownBlock = some g) : ∃ cur, w.heap[g]? = some (.cells cur e (0, 0)) := by
  rcases h.2 with ⟨rfl, _⟩ | ⟨g', cap, cur, rfl, hb, hh, _⟩
  · cases hv
  · have e1 : (Value.slice (some ⟨g', 0, none⟩) n cap).ownBlock = some g' := rfl
    rw [e1] at hv
    injection hv with hv
    subst hv
    exact ⟨cur, hh⟩
theorem own_row_at {w : World} {base n c size : Nat} {e : TypeId} {A : Option Addr} {cs : List Value} (h : w.ownsRow base e size (.slice A n c) n cs) (hn : 0 < n) : ∃ g, A = some ⟨g, 0, none⟩ ∧ base ≤ g ∧ g < w.heap.size := by
  have h0 := h
  rcases h.2 with ⟨h1, rfl⟩ | ⟨g, cap, cur, h1, h2, _⟩
  · injection h1 with _ h3 _; omega
  · injection h1 with h3 h4 h5
    subst h3
    exact ⟨g, rfl, h2, (h0.lt g rfl).2⟩
theorem own_nil_heap {W : World} {base g size : Nat} {e : TypeId} (h : W.heap[g]? = some (.cells #[] e (0, 0))) (hb : base ≤ g) : W.ownsRow base e size (.slice (some ⟨g, 0, none⟩) 0 0) 0 [] :=
  ⟨by simp, .inr ⟨g, 0, #[], rfl, hb, h, Nat.le_refl _, Nat.zero_le _, by simp, by simp⟩⟩
theorem OwnL.obj {w : World} {lo : Nat} {kind : Int} {links : List Int} {t : ByteArray} {v : Value} (ho : Own w lo (intsD links) v) (ht : t.size ≤ 9223372036854775807) : OwnL w lo (fObject ⟨kind, links, t⟩) [.int .i64 kind, v, .string t] := by
  obtain ⟨F, h1, h2, h3⟩ := ho
  refine ⟨F, h1, h2, ?_⟩
  have := D.ownL.cons (D.own.int w kind) (D.ownL.cons h3 (D.ownL.cons (D.own.str w ht) (D.ownL.nil w)))
  simpa [fObject] using this

/-- the ids below k that a list has, in order -/
def srtTo (xs : List Int) (k : Nat) : List Int := ((List.range k).map fun (i : Nat) => (i : Int)).filter fun i => hasB i xs
def srtL (xs : List Int) : List Int := srtTo xs 991
theorem srtTo_zero (xs : List Int) : srtTo xs 0 = [] := rfl
theorem srtTo_yes {xs : List Int} {k : Nat} (h : hasB k xs = true) : srtTo xs (k + 1) = srtTo xs k ++ [(k : Int)] := by
  unfold srtTo; rw [List.range_succ, List.map_append, List.filter_append]; simp [h]
theorem srtTo_no {xs : List Int} {k : Nat} (h : hasB k xs = false) : srtTo xs (k + 1) = srtTo xs k := by
  unfold srtTo; rw [List.range_succ, List.map_append, List.filter_append]; simp [h]
theorem srtTo_len (xs : List Int) (k : Nat) : (srtTo xs k).length ≤ k := by
  unfold srtTo
  have := List.length_filter_le (fun i => hasB i xs) ((List.range k).map fun (i : Nat) => (i : Int))
  simpa using this

set_option maxHeartbeats 800000 in
set_option maxRecDepth 100000 in
theorem l1Sorted_any (A : Option Addr) (n c : Nat) (xs : List Int) (w : World) (lo hi : Nat) (hh : hi ≤ w.heap.size) (hn : n ≤ 9223372036854775807) (h : Ints w lo hi A n xs) :
    Calls Tryz.prog 71 #[.slice A n c] w fun e w' => ∃ v, w'.ownsRow w.heap.size 3 1 v (srtL xs).length ((srtL xs).flatMap ci) ∧ Below w.heap.size w w' ∧ e = .returned v := by
  have HI := Lib.hid h
  have HNIL := Lib.hid (own_nil_lit w 3 1)
  clear h
  go_enter Tryz.func71, Tryz.ntmps71
  go_wp2_with fail
  go_loopw [3, 4] (fun v i wr => ∃ (k m : Nat), k ≤ 991 ∧ i = .int .i64 k ∧ m ≤ k ∧ Hid ((srtTo xs k).length = m) ∧ wr.ownsRow w.heap.size 3 1 v m ((srtTo xs k).flatMap ci) ∧ Below w.heap.size w wr) (fun _ i _ => 991 - (intOf i).toNat)
  case atStart => exact ⟨0, 0, by omega, rfl, Nat.le_refl _, rfl, HNIL.out, (Below.refl _ _).alloc (Nat.le_refl _) _⟩
  case round =>
    obtain ⟨k, m, hk, rfl, hmk, HL, hown, hb⟩ := hrel
    obtain ⟨A6, c6, rfl, hc61, hc62, -⟩ := Rd.of_own hown
    unfold maxLen at hc62
    have HO := Lib.hid hown
    have HB := Lib.hid hb
    have hwsz := hb.size
    clear hown hb
    by_cases hlt : k < 991
    · have hki : (k : Int) < 991 := by omega
      rcases hv : hasB k xs with _ | _
      · have HN := Lib.hid (srtTo_no hv)
        go_wp2_with fail
        refine (l1Has_any A n c xs k _ lo hi hn (HI.out.below HB.out hh)).mono ?_
        rintro e w1 ⟨rfl, rfl⟩
        rw [hv]
        go_wp2_with fail
        go_roundw
        case rel => exact ⟨k + 1, m, by omega, by go_num, by omega, by show _ = _; rw [HN.out]; exact HL.out, by rw [HN.out]; exact HO.out, HB.out⟩
        case measure => simp [intOf]; omega
      · have HN := Lib.hid (srtTo_yes hv)
        go_wp2_with fail
        refine (l1Has_any A n c xs k _ lo hi hn (HI.out.below HB.out hh)).mono ?_
        rintro e w1 ⟨rfl, rfl⟩
        rw [hv]
        go_wp2_with (at_builtin; go_must (refine wpList_app Tryz.elI (m := 1) (HO.out.alloc _) (rd_newn (n := wr.heap.size) rfl [.int .i64 (k : Int)] 3) rfl (by simp [Value.oneCell']) (by unfold maxLen; omega) (by omega) (by simp; omega) rfl rfl rfl rfl ?_); intro v2 w2 hown2 hg2; have HO2 := Lib.hid hown2; have HB2 := Lib.hid (below_app (HB.out.alloc hwsz _) (Nat.le_refl _) (by simp; omega) (HO.out.alloc _) hg2); clear hown2 hg2)
        go_roundw
        case rel => exact ⟨k + 1, m + 1, by omega, by go_num, by omega, by show _ = _; rw [HN.out, List.length_append, HL.out]; rfl, by rw [HN.out, List.flatMap_append]; exact HO2.out, HB2.out⟩
        case measure => simp [intOf]; omega
    · have hkn : k = 991 := by omega
      subst hkn
      go_wp2_with fail
      go_ret
      exact ⟨_, by unfold srtL; rw [HL.out]; exact HO.out, HB.out, rfl⟩

/-- a drawn id -/
def IdR (r : Int) : Prop := -1 ≤ r ∧ r ≤ 999

set_option maxHeartbeats 800000 in
set_option maxRecDepth 100000 in
theorem l91Id_any (g K : Nat) (w : World) (hK : K ≤ 1000000000 - 20) (h : Rdr w g K) :
    Calls Tryz.prog 72 #[.pointer (some ⟨g, 0, none⟩)] w fun e w' => ∃ r, IdR r ∧ DrawT w w' g (K + 4) ∧ e = .returned (.int .i64 r) := by
  have HR := Lib.hid (DrawT.refl h)
  clear h
  go_enter Tryz.func72, Tryz.ntmps72
  go_wp2_with fail
  refine (pick_any g K 30 _ (by omega) HR.out.2).mono ?_
  rintro e w1 ⟨r1, hr1, hR1, hg1, -, rfl⟩
  have HS1 := Lib.hid (HR.out.step hg1 hR1)
  clear hR1 hg1 hr1 HR
  by_cases h0 : r1 = 0
  · have hd : (r1 == 0) = true := by simp [h0]
    clear h0
    go_wp2_with fail
    refine (pick_any g (K + 1) 3 _ (by omega) (HS1.out.alloc _).2).mono ?_
    rintro e w2 ⟨r2, hr2, hR2, hg2, hsz2, rfl⟩
    obtain ⟨q2, rfl⟩ := Int.eq_ofNat_of_zero_le hr2.1
    have hq2 := hr2.2 (by omega)
    have HS2 := Lib.hid ((HS1.out.alloc _).step hg2 hR2)
    have hgl := HS1.out.2.lt
    have hrow : w2.heap[w1.heap.size]? = some (.cells #[.int .i64 (-1), .int .i64 990, .int .i64 991] 3 (0, 0)) := (hg2.block _ (by simp) (fun e => by injection e with e; omega)).trans (heap_alloc_new w1 _)
    clear hR2 hg2 hr2
    have hq3 : q2 < 3 := by omega
    have hcl : ∃ x : Int, IdR x ∧ w2.cell? ⟨w1.heap.size, q2, none⟩ = some (.int .i64 x) := by
      rcases q2 with _ | _ | _ | q2
      · exact ⟨_, ⟨by omega, by omega⟩, cell_of_row _ _ 0 _ _ _ hrow⟩
      · exact ⟨_, ⟨by omega, by omega⟩, cell_of_row _ _ 1 _ _ _ hrow⟩
      · exact ⟨_, ⟨by omega, by omega⟩, cell_of_row _ _ 2 _ _ _ hrow⟩
      · omega
    obtain ⟨x, hx, hc⟩ := hcl
    have HX := Lib.hid hx
    clear hrow hx
    go_wp2_with fail
    go_ret
    exact ⟨x, HX.out, HS2.out.more (by omega), rfl⟩
  · have hd : (r1 == 0) = false := by simp [h0]
    clear h0
    go_wp2_with fail
    refine (pick_any g (K + 1) 99 _ (by omega) HS1.out.2).mono ?_
    rintro e w2 ⟨r2, hr2, hR2, hg2, -, rfl⟩
    have HS2 := Lib.hid (HS1.out.step hg2 hR2)
    have hr21 := hr2.1
    have hr22 := hr2.2 (by omega)
    clear hR2 hg2 hr2
    go_wp2_with fail
    refine (pick_any g (K + 2) 10 _ (by omega) HS2.out.2).mono ?_
    rintro e w3 ⟨r3, hr3, hR3, hg3, -, rfl⟩
    have HS3 := Lib.hid (HS2.out.step hg3 hR3)
    have hr31 := hr3.1
    have hr32 := hr3.2 (by omega)
    clear hR3 hg3 hr3
    go_wp2_with fail
    go_ret
    exact ⟨_, ⟨by omega, by omega⟩, HS3.out.more (by omega), rfl⟩

end Go.Proofs.YtnaeglfochnikaaGreat
