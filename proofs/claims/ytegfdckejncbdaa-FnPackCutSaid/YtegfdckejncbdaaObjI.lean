/-
  The walks of the program's Object.id and of the reference's l1Of: the id of a valid object. Condition: the object is valid.
-/
import Derived.Test.YtegfdckejncbdaaObjV
import Derived.Laws.IdiomStrings
namespace Go.Proofs.Ytegfdckejncbdaa
set_option linter.unusedVariables false
set_option linter.unusedSimpArgs false
open Go.RowKit

theorem idL_bd {o : ObjD} (h : objB o = true) (k : Nat) : 0 ≤ idLinks (100 * o.kind + o.links.length) (o.links.take k) ∧ idLinks (100 * o.kind + o.links.length) (o.links.take k) ≤ 990 := by
  obtain ⟨h1, h2, h3, h4⟩ := objB_and h
  have hm := idsB_mem h1
  have := idLinks_bd (o.links.take k) (100 * o.kind + o.links.length) (fun x hx => hm x (List.mem_of_mem_take hx)) (by omega)
  exact ⟨this.1, this.2 (by omega)⟩
theorem idT_bd {o : ObjD} (h : objB o = true) (k : Nat) : 0 ≤ idText (idLinks (100 * o.kind + o.links.length) o.links) (o.text.data.toList.take k) ∧ idText (idLinks (100 * o.kind + o.links.length) o.links) (o.text.data.toList.take k) ≤ 990 := by
  have := idL_bd h o.links.length
  rw [List.take_of_length_le (Nat.le_refl _)] at this
  exact idText_bd _ _ this.1 this.2
theorem link_bd {o : ObjD} (h : objB o = true) {k : Nat} (hk : k < o.links.length) : 0 ≤ o.links[k] ∧ o.links[k] ≤ 990 := idsB_mem (objB_and h).1 _ (List.getElem_mem hk)

set_option maxHeartbeats 3200000 in
theorem l1Of_any (kind : Int) (links : List Int) (text : ByteArray) (A : Option Addr) (n c : Nat) (w : World) (lo hi : Nat) (hh : hi ≤ w.heap.size) (hv : objB ⟨kind, links, text⟩ = true) (h : D.rd w lo hi (intsD links) (.slice A n c)) :
    Calls Try.prog 25 #[.agg #[.int .i64 kind, .slice A n c, .string text]] w fun e w' => e = .returned (.int .i64 (idB ⟨kind, links, text⟩)) ∧ Below w.heap.size w w' := by
  obtain ⟨-, hl4, ht8, hkd⟩ := objB_and hv
  have hl := h.ints.1
  have hn := h.len.2
  rw [← h.len.1] at hn
  have hn4 : n ≤ 4 := by rw [← hl]; exact hl4
  have hk1 : 1 ≤ kind := by rcases hkd with rfl | rfl | rfl <;> decide
  have hk3 : kind ≤ 3 := by rcases hkd with rfl | rfl | rfl <;> decide
  have ht : text.size ≤ 8 := ht8
  have HI : Hid (Ints (w.alloc (.cells #[.int .i64 kind, .slice A n c, .string text] 39)) lo hi A n links) := h.ints.alloc hh _
  have HB : Hid (Below w.heap.size w (w.alloc (.cells #[.int .i64 kind, .slice A n c, .string text] 39))) := (Below.refl _ _).alloc (Nat.le_refl _) _
  have HL := Lib.hid hl
  have HV := Lib.hid hv
  clear h hl hl4 ht8 hkd hv
  go_enter Try.func25, Try.ntmps25
  go_wp2_with fail
  go_loop [3, 4] (fun q i => ∃ (k : Nat) (x : Int), k ≤ n ∧ i = .int .i64 k ∧ q = .int .i64 x ∧ Hid (x = idLinks (100 * kind + links.length) (links.take k))) (fun _ i => n - (intOf i).toNat)
  case atStart => exact ⟨0, _, Nat.zero_le _, rfl, rfl, by show _ = _; rw [HL.out]; rfl⟩
  case round =>
    obtain ⟨k, x, hk, rfl, rfl, HX⟩ := hrel
    have hx0 : 0 ≤ x := by rw [HX.out]; exact (idL_bd HV.out k).1
    have hx1 : x ≤ 990 := by rw [HX.out]; exact (idL_bd HV.out k).2
    by_cases hlt : k < n
    · obtain ⟨b, o, hlk, rfl, _, hbh, hc⟩ := HI.out.int hlt
      have hb0 := (link_bd HV.out hlk).1
      have hb1 := (link_bd HV.out hlk).2
      dsimp only at hb0 hb1
      have HT := Lib.hid (idLinks_take hlk (100 * kind + links.length))
      go_wp2_with fail
      go_round
      case rel => exact ⟨k + 1, _, by omega, by go_num, rfl, by show _ = _; rw [HT.out, ← HX.out, Int.mul_comm 613 x]⟩
      case measure => simp [intOf]; omega
    · have hkn : k = n := by omega
      subst hkn
      have HX2 : Hid (x = idLinks (100 * kind + links.length) links) := by
        have := HX.out
        rw [List.take_of_length_le (by rw [HL.out]; exact Nat.le_refl _)] at this
        exact this
      clear HX
      go_wp2_with fail
      go_loop [3, 5] (fun q i => ∃ (j : Nat) (y : Int), j ≤ text.size ∧ i = .int .i64 j ∧ q = .int .i64 y ∧ Hid (y = idText (idLinks (100 * kind + links.length) links) (text.data.toList.take j))) (fun _ i => text.size - (intOf i).toNat)
      case atStart => exact ⟨0, _, Nat.zero_le _, rfl, rfl, by show _ = _; rw [← HX2.out]; rfl⟩
      case round =>
        obtain ⟨j, y, hj, rfl, rfl, HY⟩ := hrel
        have hy0 : 0 ≤ y := by rw [HY.out]; exact (idT_bd HV.out j).1
        have hy1 : y ≤ 990 := by rw [HY.out]; exact (idT_bd HV.out j).2
        by_cases hlt2 : j < text.size
        · have HT := Lib.hid (idText_take (xs := text.data.toList) (k := j) hlt2 (idLinks (100 * kind + links.length) links))
          have hbt : text[j].toNat ≤ 255 := by have := UInt8.toNat_lt text[j]; omega
          go_wp2_with fail
          go_round
          case rel => exact ⟨j + 1, _, by omega, by go_num, rfl, by show _ = _; rw [HT.out, ← HY.out, Int.mul_comm 257 y]; rfl⟩
          case measure => simp [intOf]; omega
        · have hjn : j = text.size := by omega
          subst hjn
          have hmod : y % 991 = y := by omega
          have HY2 : Hid (y = idB ⟨kind, links, text⟩) := by
            have := HY.out
            rw [List.take_of_length_le (show text.data.toList.length ≤ text.size from Nat.le_refl _)] at this
            exact this
          go_wp2_with fail
          go_ret
          exact ⟨ret_int (by first | exact HY2.out | (rw [hmod]; exact HY2.out)), HB.out⟩

theorem bytes_conv (W : World) (s : ByteArray) : ∃ (cap : Nat) (ob : Obj), (convert 9 29 (.string s)).run Try.prog W = .ok (.slice (some ⟨W.heap.size, 0, none⟩) s.size cap) (W.drew.alloc ob) ∧
    ∀ j (hj : j < s.size), (W.alloc ob).cell? ⟨W.heap.size, j, none⟩ = some (.int .u8 (s[j].toNat : Int)) := by
  refine ⟨_, _, run_bytes_of_string W 9 29 5 s Try.underlying9 Try.underlying29 Try.underlying5, fun j hj => ?_⟩
  rw [cell_of_row (W.alloc _) W.heap.size j _ _ _ (heap_alloc_new W _)]
  exact bytesRow_at s _ j hj

set_option maxHeartbeats 3200000 in
theorem objId_any (kind : Int) (links : List Int) (text : ByteArray) (A : Option Addr) (n c : Nat) (w : World) (lo hi : Nat) (hh : hi ≤ w.heap.size) (hv : objB ⟨kind, links, text⟩ = true) (h : D.rd w lo hi (intsD links) (.slice A n c)) :
    Calls Try.prog 27 #[.agg #[.int .i64 kind, .slice A n c, .string text]] w fun e w' => e = .returned (.int .i64 (idB ⟨kind, links, text⟩)) ∧ Below w.heap.size w w' := by
  obtain ⟨-, hl4, ht8, hkd⟩ := objB_and hv
  have hl := h.ints.1
  have hn := h.len.2
  rw [← h.len.1] at hn
  have hn4 : n ≤ 4 := by rw [← hl]; exact hl4
  have hk1 : 1 ≤ kind := by rcases hkd with rfl | rfl | rfl <;> decide
  have hk3 : kind ≤ 3 := by rcases hkd with rfl | rfl | rfl <;> decide
  have ht : text.size ≤ 8 := ht8
  have HI : Hid (Ints (w.alloc (.cells #[.int .i64 kind, .slice A n c, .string text] 39)) lo hi A n links) := h.ints.alloc hh _
  have HB : Hid (Below w.heap.size w (w.alloc (.cells #[.int .i64 kind, .slice A n c, .string text] 39))) := (Below.refl _ _).alloc (Nat.le_refl _) _
  have HL := Lib.hid hl
  have HV := Lib.hid hv
  clear h hl hl4 ht8 hkd hv
  obtain ⟨cap, ob, hcv, hcell⟩ := bytes_conv (w.alloc (.cells #[.int .i64 kind, .slice A n c, .string text] 39)) text
  have HC := Lib.hid hcell
  clear hcell
  go_enter Try.func27, Try.ntmps27
  go_wp2_with fail
  go_loop [3, 18] (fun q i => ∃ (k : Nat) (x : Int), k ≤ n ∧ i = .int .i64 k ∧ q = .int .i64 x ∧ Hid (x = idLinks (100 * kind + links.length) (links.take k))) (fun _ i => n - (intOf i).toNat)
  case atStart => exact ⟨0, _, Nat.zero_le _, rfl, rfl, by show _ = _; rw [HL.out]; rfl⟩
  case round =>
    obtain ⟨k, x, hk, rfl, rfl, HX⟩ := hrel
    have hx0 : 0 ≤ x := by rw [HX.out]; exact (idL_bd HV.out k).1
    have hx1 : x ≤ 990 := by rw [HX.out]; exact (idL_bd HV.out k).2
    by_cases hlt : k < n
    · obtain ⟨b, o, hlk, rfl, _, hbh, hc⟩ := HI.out.int hlt
      have hb0 := (link_bd HV.out hlk).1
      have hb1 := (link_bd HV.out hlk).2
      dsimp only at hb0 hb1
      have HT := Lib.hid (idLinks_take hlk (100 * kind + links.length))
      go_wp2_with fail
      go_round
      case rel => exact ⟨k + 1, _, by omega, by go_num, rfl, by show _ = _; rw [HT.out, ← HX.out]⟩
      case measure => simp [intOf]; omega
    · have hkn : k = n := by omega
      subst hkn
      have HX2 : Hid (x = idLinks (100 * kind + links.length) links) := by
        have := HX.out
        rw [List.take_of_length_le (by rw [HL.out]; exact Nat.le_refl _)] at this
        exact this
      clear HX
      go_wp2_with fail
      go_loop [3, 33] (fun q i => ∃ (j : Nat) (y : Int), j ≤ text.size ∧ i = .int .i64 j ∧ q = .int .i64 y ∧ Hid (y = idText (idLinks (100 * kind + links.length) links) (text.data.toList.take j))) (fun _ i => text.size - (intOf i).toNat)
      case atStart => exact ⟨0, _, Nat.zero_le _, rfl, rfl, by show _ = _; rw [← HX2.out]; rfl⟩
      case round =>
        obtain ⟨j, y, hj, rfl, rfl, HY⟩ := hrel
        have hy0 : 0 ≤ y := by rw [HY.out]; exact (idT_bd HV.out j).1
        have hy1 : y ≤ 990 := by rw [HY.out]; exact (idT_bd HV.out j).2
        by_cases hlt2 : j < text.size
        · have HT := Lib.hid (idText_take (xs := text.data.toList) (k := j) hlt2 (idLinks (100 * kind + links.length) links))
          have hbt : text[j].toNat ≤ 255 := by have := UInt8.toNat_lt text[j]; omega
          have hcj := HC.out j hlt2
          rw [World.size_alloc] at hcj
          go_wp2_with fail
          go_round
          case rel => exact ⟨j + 1, _, by omega, by go_num, rfl, by show _ = _; rw [HT.out, ← HY.out]; rfl⟩
          case measure => simp [intOf]; omega
        · have hjn : j = text.size := by omega
          subst hjn
          have HY2 : Hid (y = idB ⟨kind, links, text⟩) := by
            have := HY.out
            rw [List.take_of_length_le (show text.data.toList.length ≤ text.size from Nat.le_refl _)] at this
            exact this
          go_wp2_with fail
          go_ret
          exact ⟨ret_int HY2.out, (HB.out.alloc (by simp) _).drew⟩

end Go.Proofs.Ytegfdckejncbdaa
