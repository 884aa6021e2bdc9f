/-
  The walks of the program's longest and of what DeltaMake calls: each answers what the plain functions say. Condition: the texts are short; the library's variable MaxLen holds some number.
-/
import Derived.Test.YtnaeglfochnikaaGreatZ2
import Derived.Test.YtnaeglfochnikaaGreatShelf
import Derived.Test.YtnaeglfochnikaaGreatZ4
import Derived.StillTailTactics
namespace Go.Proofs.YtnaeglfochnikaaGreat
set_option linter.unusedVariables false
set_option linter.unusedSimpArgs false
open Go.RowKit

theorem ret_ii {a b c d : Int} (h : a = c) (k : b = d) : Ending.returned (.tuple #[.int .i64 a, .int .i64 b]) = .returned (.tuple #[.int .i64 c, .int .i64 d]) := by rw [h, k]

set_option maxHeartbeats 800000 in
set_option maxRecDepth 100000 in
theorem longest_any (b t : ByteArray) (m : Int) (w : World) (hb : b.size ≤ 8) (ht : t.size ≤ 8) (hm : w.cell? ⟨0, 0, none⟩ = some (.int .i64 m)) :
    Calls Tryz.prog 88 #[.string b, .string t] w fun e w' => e = .returned (.tuple #[.int .i64 ((bestB b t).1 : Nat), .int .i64 ((bestB b t).2 : Nat)]) ∧ w = w' := by
  have HM := Lib.hid hm
  clear hm
  have hr := bestB_right b t
  have hl := bestB_left b t
  have hz : ∀ k : Nat, (bestB b t).2 ≤ k → k = 0 → bestB b t = (0, 0) := fun k h0 h1 => bestTo_zero _ _ _ (by show (bestB b t).2 = 0; omega)
  have HZ := Lib.hid hz
  clear hz
  go_enter Tryz.func88, Tryz.ntmps88
  go_wp2_with fail
  go_loop [6] (fun s => ∃ k : Nat, s = .int .i64 k ∧ k ≤ b.size ∧ k ≤ t.size ∧ (bestB b t).2 ≤ k) (fun s => (intOf s).toNat)
  case atStart => exact ⟨min b.size t.size, by congr 1; omega, Nat.min_le_left _ _, Nat.min_le_right _ _, by omega⟩
  case round =>
    obtain ⟨k, rfl, hk1, hk2, hk3⟩ := hrel
    by_cases hk0 : 0 < k
    · have hix := index_best b t k hk0 hk2 hk3
      have htk : (t.extract 0 k).data.toList = t.data.toList.take k := by simp [ByteArray.data_extract]
      rw [← htk] at hix
      by_cases he : (bestB b t).2 = k
      · rw [if_pos he] at hix
        have HIX := Lib.hid hix
        have HE := Lib.hid he
        clear hix he htk
        go_wp2_with fail
        refine (Tryz.strings_Index _ _ m _ (by omega) HM.out).mono ?_
        rintro e w' ⟨rfl, rfl⟩
        rw [HIX.out]
        go_wp2_with fail
        go_ret2
        exact ⟨ret_ii rfl (by rw [HE.out]), rfl⟩
      · rw [if_neg he] at hix
        have hk4 : (bestB b t).2 ≤ k - 1 := by omega
        have HIX := Lib.hid hix
        clear hix he htk
        go_wp2_with fail
        refine (Tryz.strings_Index _ _ m _ (by omega) HM.out).mono ?_
        rintro e w' ⟨rfl, rfl⟩
        rw [HIX.out]
        go_wp2_with fail
        go_round
        case rel => exact ⟨k - 1, by go_num, by omega, by omega, hk4⟩
        case measure => simp [intOf]; omega
    · have hk : k = 0 := by omega
      subst hk
      have hz := Lib.hid (HZ.out 0 hk3 rfl)
      go_wp2_with fail
      go_ret2
      exact ⟨ret_ii (by rw [hz.out]; rfl) (by rw [hz.out]; rfl), rfl⟩

/-- linked operations, the last one first: each node is a block of its own, behind the node to which it leads -/
def Lnk (w : World) (base : Nat) : List OpD → Nat → Option Addr → Prop
  | [], _, p => p = none
  | o :: r, hi, p => ∃ g q, p = some ⟨g, 0, none⟩ ∧ base ≤ g ∧ g < hi ∧ w.heap[g]? = some (.cells #[.int .i64 o.at_, .int .i64 o.size, .string o.text, .pointer q] 122 (0, 0)) ∧ Lnk w base r g q
theorem Lnk.keep {w w' : World} {base : Nat} : ∀ {r : List OpD} {hi : Nat} {p : Option Addr}, (∀ g, base ≤ g → g < hi → w'.heap[g]? = w.heap[g]?) → Lnk w base r hi p → Lnk w' base r hi p
  | [], _, _, _, h => h
  | o :: r, hi, p, hk, h => by
    obtain ⟨g, q, h1, h2, h3, h4, h5⟩ := h
    exact ⟨g, q, h1, h2, h3, (hk g h2 h3).trans h4, Lnk.keep (fun g' a b => hk g' a (by omega)) h5⟩
theorem Lnk.more {w : World} {base hi hi' : Nat} {p : Option Addr} : ∀ {r : List OpD}, Lnk w base r hi p → hi ≤ hi' → Lnk w base r hi' p
  | [], h, _ => h
  | o :: r, h, hh => by
    obtain ⟨g, q, h1, h2, h3, h4⟩ := h
    exact ⟨g, q, h1, h2, by omega, h4⟩
theorem Lnk.below {w w' : World} {base hi C : Nat} {p : Option Addr} {r : List OpD} (h : Lnk w base r hi p) (hb : Below C w w') (hC : hi ≤ C) : Lnk w' base r hi p := h.keep fun g _ hg => hb.block g (by omega)
theorem own_row_ex {w : World} {base n c size : Nat} {e : TypeId} {A : Option Addr} {cs : List Value} (h : w.ownsRow base e size (.slice A n c) n cs) (hn : 0 < n) : ∃ g, A = some ⟨g, 0, none⟩ ∧ base ≤ g ∧ g < w.heap.size := by
  have h0 := h
  rcases h.2 with ⟨h1, rfl⟩ | ⟨g, cap, cur, h1, h2, _⟩
  · injection h1 with _ h3 _; omega
  · injection h1 with h3 h4 h5
    subst h3
    exact ⟨g, rfl, h2, (h0.lt g rfl).2⟩

instance : Inhabited OpD := ⟨⟨0, 0, ByteArray.empty⟩⟩
theorem flatK_list (xs : List OpD) : (Sort.flatK co 3 xs.toArray).toList = xs.flatMap co := by
  refine List.ext_getElem? fun i => ?_
  by_cases hi : i < xs.length * 3
  · have hd : i / 3 < xs.length := by omega
    have hg := flat_get co 3 co_len xs (i / 3) hd (i % 3) (Nat.mod_lt _ (by omega))
    rw [show i / 3 * 3 + i % 3 = i from by omega] at hg
    rw [hg, Array.getElem?_toList]
    have hs : i < (Sort.flatK co 3 xs.toArray).size := by simpa using hi
    have h2 := Sort.get_flatK co 3 xs.toArray i (by simpa using hi)
    rw [getElem!_pos _ i hs] at h2
    rw [Array.getElem?_eq_getElem hs, h2]
    have h3 : (xs.toArray)[i / 3]! = xs[i / 3] := by simp [hd]
    rw [h3, getElem!_pos _ _ (by rw [co_len]; exact Nat.mod_lt _ (by omega)), List.getElem?_eq_getElem]
  · rw [List.getElem?_eq_none (by simpa using hi), List.getElem?_eq_none (by rw [flat_len co 3 co_len]; omega)]

theorem own_putRow {w : World} {base n size cap g : Nat} {e : TypeId} {cs : List Value} (h : w.ownsRow base e size (.slice (some ⟨g, 0, none⟩) n cap) n cs) (F : Array Value) (hF : F.size = n * size) (k : Nat) :
    (Sort.putRow id (Sort.ahead w k) g 0 F).ownsRow base e size (.slice (some ⟨g, 0, none⟩) n cap) n F.toList ∧ w.grownBy (Sort.putRow id (Sort.ahead w k) g 0 F) (some g) := by
  rcases h.2 with ⟨h1, rfl⟩ | ⟨g', cap', cur, h1, h2, h3, h4, h5, h6, h7⟩
  · cases h1
  · injection h1 with hA _ hc
    injection hA with hA
    injection hA with hb ho hs
    subst hb hc
    have hsz : n * size ≤ cur.size := by rw [h6]; exact Nat.mul_le_mul_right _ h4
    have hh : (Sort.putRow id (Sort.ahead w k) g 0 F).heap[g]? = some (.cells (Sort.putCells id 0 F cur) e (0, 0)) := by
      show (w.heap.modify g (Sort.onCells (Sort.putCells id 0 F)))[g]? = _
      rw [Array.getElem?_modify, if_pos rfl, h3]; rfl
    refine ⟨⟨by simpa using hF, .inr ⟨g, cap, _, rfl, h2, hh, h4, h5, by simpa [Sort.putCells] using h6, ?_⟩⟩, ⟨rfl, rfl, rfl, ?_, ?_⟩⟩
    · refine List.ext_getElem? fun i => ?_
      by_cases hi : i < n * size
      · rw [List.getElem?_take, if_pos hi, Array.getElem?_toList, Array.getElem?_toList]
        unfold Sort.putCells
        rw [Array.getElem?_mapIdx, Array.getElem?_eq_getElem (by omega), Option.map_some, if_pos ⟨Nat.zero_le _, by omega⟩, Nat.sub_zero, getElem!_pos F i (by omega), Array.getElem?_eq_getElem (by omega)]; rfl
      · rw [List.getElem?_eq_none (by rw [List.length_take]; omega), List.getElem?_eq_none (by simp; omega)]
    · show w.heap.size ≤ (w.heap.modify g _).size
      simp
    · intro i hi hne
      show (w.heap.modify g _)[i]? = _
      rw [Array.getElem?_modify, if_neg (fun e => hne (by rw [e]))]

theorem Tryz.aggOp : ∀ w, (isAgg 96).run Tryz.prog w = .ok true w := fun _ => by kernel_rfl
theorem Tryz.sizeOp : ∀ w, (Go.sizeOf 96).run Tryz.prog w = .ok 3 w := fun _ => by kernel_rfl

theorem reverse_any (A : Option Addr) (n c base : Nat) (xs : List OpD) (w : World) (hn : n ≤ 1000) (hxl : xs.length = n) (h : w.ownsRow base 96 3 (.slice A n c) n (xs.flatMap co)) :
    Calls Tryz.prog 98 #[.slice A n c] w fun e w' => w'.ownsRow base 96 3 (.slice A n c) n (xs.reverse.flatMap co) ∧ w.grownBy w' (Value.slice A n c).ownBlock ∧ e = .returned (.tuple #[]) := by
  rcases Nat.eq_zero_or_pos n with h0 | h0
  · subst h0
    have : xs = [] := List.eq_nil_of_length_eq_zero hxl
    subst this
    refine (Tryz.slices_Reverse_empty A c w).mono ?_
    rintro e w' ⟨rfl, rfl⟩
    exact ⟨h, World.grownBy.refl _ _, rfl⟩
  · obtain ⟨g, rfl, _, _⟩ := own_row_ex h h0
    have hH : Sort.HoldsK co 3 w g 0 xs.toArray := by
      intro j hj
      have hj' : j < n * 3 := by simpa [hxl] using hj
      refine ⟨?_, h.frozenAt _⟩
      rw [Nat.zero_add, h.cellAt _ hj', ← flatK_list, Array.getElem?_toList, Array.getElem?_eq_getElem hj, getElem!_pos _ j hj]; rfl
    have hc := Tryz.slices_Reverse 3 Tryz.aggOp Tryz.sizeOp co co_len (fun x v hv => by simp [co] at hv; rcases hv with rfl | rfl | rfl <;> rfl) g 0 c xs.toArray w hH (by simp; omega)
    rw [show xs.toArray.size = n from hxl] at hc
    refine hc.mono ?_
    rintro e w' ⟨rfl, k, rfl⟩
    have hp := own_putRow h (Sort.flatK co 3 xs.toArray.reverse) (by simp [hxl]) k
    rw [show xs.toArray.reverse = xs.reverse.toArray from by simp, flatK_list] at hp
    rw [show xs.toArray.reverse = xs.reverse.toArray from by simp]
    exact ⟨hp.1, hp.2, rfl⟩

theorem Lnk.low {w : World} {base hi : Nat} {p : Option Addr} : ∀ {r : List OpD}, Lnk w base r hi p → Lnk w 0 r hi p
  | [], h => h
  | o :: r, h => by
    obtain ⟨g, q, h1, h2, h3, h4, h5⟩ := h
    have h6 := Lnk.low h5
    exact ⟨g, q, h1, Nat.zero_le _, h3, h4, h6⟩
theorem own_lowP {w : World} {base base' n size : Nat} {e : TypeId} {v : Value} {cs : List Value} (h : w.ownsRow base e size v n cs) (hb : base' ≤ base) : w.ownsRow base' e size v n cs := by
  obtain ⟨h1, h⟩ := h
  rcases h with h | ⟨g, cap, cur, h2, h3, h4⟩
  · exact ⟨h1, .inl h⟩
  · exact ⟨h1, .inr ⟨g, cap, cur, h2, Nat.le_trans hb h3, h4⟩⟩
/-- where a pointer leads -/
def ptrN : Value → Nat
  | .pointer (some a) => a.block + 1
  | _ => 0
theorem Lnk.ptr {w : World} {base hi o : Nat} {p : Option Addr} : ∀ {r : List OpD}, Lnk w base r hi p → ptrN (.pointer p) < ptrN (.pointer (some ⟨hi, o, none⟩))
  | [], h => by
    obtain rfl : p = none := h
    simp [ptrN]
  | x :: r, h => by
    obtain ⟨g, q, rfl, _, h3, _⟩ := h
    simp [ptrN]; omega

set_option maxHeartbeats 800000 in
set_option maxRecDepth 100000 in
theorem opsRev_any (r : List OpD) (p : Option Addr) (w : World) (hr : r.length ≤ 1000) (h : Lnk w 0 r w.heap.size p) :
    Calls Tryz.prog 89 #[.pointer p] w fun e w' => ∃ v, w'.ownsRow w.heap.size 96 3 v r.length (r.reverse.flatMap co) ∧ Below w.heap.size w w' ∧ e = .returned v := by
  have HL := Lib.hid h
  clear h
  go_enter Tryz.func89, Tryz.ntmps89
  go_wp2_with fail
  go_loopw [0, 3] (fun a v wr => ∃ (q : Option Addr) (done rest : List OpD) (hi : Nat), a = .pointer q ∧ r = done ++ rest ∧ Lnk w 0 rest hi q ∧ hi ≤ w.heap.size ∧ wr.ownsRow w.heap.size 96 3 v done.length (done.flatMap co) ∧ Below w.heap.size w wr) (fun a _ _ => ptrN a)
  case atStart => exact ⟨p, [], r, w.heap.size, rfl, rfl, HL.out, Nat.le_refl _, World.ownsRow_nil _ _ _ _, Below.refl _ _⟩
  case round =>
    obtain ⟨q, done, rest, hi, rfl, he, hL, hhi, hown, hb⟩ := hrel
    have HO := Lib.hid hown
    have HB := Lib.hid hb
    have HE := Lib.hid he
    have hwsz := hb.size
    have hdl : done.length ≤ 1000 := by have := congrArg List.length he; rw [List.length_append] at this; omega
    clear he
    rcases rest with _ | ⟨o, rest⟩
    · obtain rfl : q = none := hL
      obtain ⟨A, c, rfl, hc, hcm, -⟩ := Rd.of_own hown
      have hrd : r = done := by rw [HE.out, List.append_nil]
      subst hrd
      clear hown hb
      go_wp2_with fail
      refine (reverse_any A r.length c w.heap.size r wr hdl rfl HO.out).mono ?_
      rintro e w2 ⟨hown2, hg2, rfl⟩
      have HO2 := Lib.hid hown2
      have HB2 : Hid (Below w.heap.size w w2) := Lib.hid (below_app HB.out (Nat.le_refl _) hwsz HO.out hg2)
      clear hown2 hg2
      go_wp2_with fail
      go_ret
      exact ⟨_, HO2.out, HB2.out, rfl⟩
    · obtain ⟨g, q2, rfl, -, hgh, hh, hL2⟩ := hL
      have hh2 : wr.heap[g]? = _ := (hb.block g (by omega)).trans hh
      have hc0 : wr.cell? ⟨g, 0, none⟩ = some (.int .i64 o.at_) := cell_of_row _ g 0 _ _ _ hh2
      have hc1 : wr.cell? ⟨g, 1, none⟩ = some (.int .i64 o.size) := cell_of_row _ g 1 _ _ _ hh2
      have hc2 : wr.cell? ⟨g, 2, none⟩ = some (.string o.text) := cell_of_row _ g 2 _ _ _ hh2
      have hc3 : wr.cell? ⟨g, 3, none⟩ = some (.pointer q2) := cell_of_row _ g 3 _ _ _ hh2
      have hglt : g < wr.heap.size := by omega
      have HL2 := Lib.hid hL2
      have HH := Lib.hid hh
      clear hown hb hh hh2 hL2 hc3
      go_wp2_with (at_builtin; go_must (refine wpList_app Tryz.elOp (HO.out.alloc _) (rd_new _ (co o) _) rfl (by simp [Value.oneCell', co]) (by unfold maxLen; omega) (by omega) (by simp; omega) rfl rfl rfl rfl ?_); intro v' w4 hown4 hg4; have HB4 : Hid (Below w.heap.size w w4) := Lib.hid (below_app (HB.out.alloc hwsz _) (Nat.le_refl _) (by simp; omega) (HO.out.alloc _) hg4); have hc3 : w4.cell? ⟨g, 3, none⟩ = some (.pointer q2) := cell_of_row _ g 3 _ _ _ ((HB4.out.block g (by omega)).trans HH.out); have HO4 := Lib.hid hown4; clear hown4 hg4)
      go_roundw
      case rel => exact ⟨q2, done ++ [o], rest, g, rfl, by rw [HE.out]; simp, HL2.out, by omega, by have := HO4.out; rw [List.flatMap_append, List.length_append]; simpa using this, HB4.out⟩
      case measure => exact Lnk.ptr HL2.out

/-- what holds of a node that is new -/
theorem Lnk.cons {w : World} {base hi : Nat} {p : Option Addr} {r : List OpD} (h : Lnk w base r hi p) (hh : hi ≤ w.heap.size) (hb : base ≤ w.heap.size) (o : OpD) :
    Lnk (w.alloc (.cells #[.int .i64 o.at_, .int .i64 o.size, .string o.text, .pointer p] 122)) base (o :: r) (w.heap.size + 1) (some ⟨w.heap.size, 0, none⟩) :=
  ⟨w.heap.size, p, rfl, hb, Nat.lt_succ_self _, heap_alloc_new w _, (h.more hh).keep fun g _ hg => Below.heap_alloc _ _ _ hg⟩
theorem Lnk.join {w : World} {base hi g : Nat} {o : OpD} {r : List OpD} (h : Lnk w base (o :: r) hi (some ⟨g, 0, none⟩)) (t : ByteArray) :
    Lnk (w.setCell ⟨g, 2, none⟩ (.string t)).drew base (⟨o.at_, o.size, t⟩ :: r) hi (some ⟨g, 0, none⟩) := by
  obtain ⟨g', q, h1, h2, h3, h4, h5⟩ := h
  injection h1 with h1
  injection h1 with h1
  subst h1
  refine ⟨g, q, rfl, h2, h3, ?_, h5.keep fun k _ hk => ?_⟩
  · show (w.setCell ⟨g, 2, none⟩ (.string t)).heap[g]? = _
    rw [heap_setCell_same w g 2 _ _ _ h4]; rfl
  · show (w.setCell ⟨g, 2, none⟩ (.string t)).heap[k]? = _
    exact Below.heap_setCell _ _ _ _ (by simp; omega)

set_option maxHeartbeats 1600000 in
set_option maxRecDepth 100000 in
theorem implMake_any (b t : ByteArray) (m : Int) (w : World) (hbs : b.size ≤ 9223372036854775807) (hts : t.size ≤ 9223372036854775807) (hw0 : 0 < w.heap.size) (hm : w.cell? ⟨0, 0, none⟩ = some (.int .i64 m)) :
    Calls Tryz.prog 65 #[.string b, .string t] w fun e w' => ∃ v, w'.ownsRow w.heap.size 96 3 v (makeB b t).length ((makeB b t).flatMap co) ∧ Below w.heap.size w w' ∧ e = .returned v := by
  have HM := Lib.hid hm
  clear hm
  by_cases hbig : 8 < b.size
  · have hno := Lib.hid (makeB_no (b := b) (t := t) (.inl hbig))
    go_enter Tryz.func65, Tryz.ntmps65
    go_wp2_with fail
    go_ret
    exact ⟨_, by rw [hno.out]; exact World.ownsRow_nil _ _ _ _, Below.refl _ _, rfl⟩
  by_cases hbig2 : 8 < t.size
  · have hno := Lib.hid (makeB_no (b := b) (t := t) (.inr hbig2))
    go_enter Tryz.func65, Tryz.ntmps65
    go_wp2_with fail
    go_ret
    exact ⟨_, by rw [hno.out]; exact World.ownsRow_nil _ _ _ _, Below.refl _ _, rfl⟩
  have hb8 : b.size ≤ 8 := by omega
  have ht8 : t.size ≤ 8 := by omega
  clear hbig hbig2 hbs hts
  have HY := Lib.hid (makeB_yes hb8 ht8)
  go_enter Tryz.func65, Tryz.ntmps65
  go_wp2_with fail
  go_loopw [1, 5] (fun x l wr => ∃ (s : ByteArray) (p : Option Addr) (r : List OpD), x = .string s ∧ l = .pointer p ∧ s.size ≤ 8 ∧ MkI b t s r ∧ Hid (mkD b s r = mkD b t []) ∧ Lnk wr w.heap.size r wr.heap.size p ∧ Below w.heap.size w wr) (fun x _ _ => strLen x)
  case atStart => exact ⟨t, none, [], rfl, rfl, ht8, ⟨by simp [catD], by simp, by simp⟩, rfl, rfl, Below.refl _ _⟩
  case round =>
    obtain ⟨s, p, r, rfl, rfl, hs8, hI, HE, hL, hb⟩ := hrel
    have HI := Lib.hid hI
    have HL := Lib.hid hL
    have HB := Lib.hid hb
    have hwsz := hb.size
    clear hI hL hb
    by_cases h0 : 0 < s.size
    · have hrr := bestB_right b s
      have hll := bestB_left b s
      have hmw : wr.cell? ⟨0, 0, none⟩ = some (.int .i64 m) := (HB.out.cell (p := ⟨0, 0, none⟩) hw0).trans HM.out
      have HMW := Lib.hid hmw
      clear hmw
      by_cases hc : 2 ≤ (bestB b s).2
      · have htk : Hid (takeD b s = (bestB b s).2) := Lib.hid (if_pos hc)
        have hst := HI.out.step h0 ht8 hb8
        have hmk := mkD_step (b := b) (r := r) h0
        rw [htk.out, addD_copy hc] at hst hmk
        have HST := Lib.hid hst
        have HMK := Lib.hid hmk
        clear hst hmk
        go_wp2_with fail
        refine (longest_any b s m _ hb8 hs8 HMW.out).mono ?_
        rintro e w2 ⟨rfl, rfl⟩
        go_wp2_with fail
        have HL2 := Lib.hid (HL.out.cons (Nat.le_refl _) hwsz ⟨(bestB b s).1, (bestB b s).2, ByteArray.empty⟩)
        exact ⟨⟨_, _, _, rfl, rfl, by rw [ByteArray.size_extract]; omega, HST.out, Lib.hid (HMK.out.symm.trans HE.out), HL2.out.more (Nat.le_of_eq (by simp)), HB.out.alloc hwsz _⟩, by simp [strLen, ByteArray.size_extract]; omega⟩
      · have htk : Hid (takeD b s = 1) := Lib.hid (if_neg hc)
        have hst := HI.out.step h0 ht8 hb8
        have hmk := mkD_step (b := b) (r := r) h0
        rw [htk.out] at hst hmk
        rcases r with _ | ⟨o, r⟩
        · obtain rfl : p = none := HL.out
          rw [addD_nil hc] at hst hmk
          have HST := Lib.hid hst
          have HMK := Lib.hid hmk
          clear hst hmk
          go_wp2_with fail
          refine (longest_any b s m _ hb8 hs8 HMW.out).mono ?_
          rintro e w2 ⟨rfl, rfl⟩
          go_wp2_with fail
          have HL2 := Lib.hid (HL.out.cons (Nat.le_refl _) hwsz ⟨0, 0, s.extract 0 1⟩)
          exact ⟨⟨_, _, _, rfl, rfl, by rw [ByteArray.size_extract]; omega, HST.out, Lib.hid (HMK.out.symm.trans HE.out), HL2.out.more (Nat.le_of_eq (by simp)), HB.out.alloc hwsz _⟩, by simp [strLen, ByteArray.size_extract]; omega⟩
        · obtain ⟨g, q, rfl, hgb, hgh, hh, hL2⟩ := HL.out
          have hc0 : wr.cell? ⟨g, 0, none⟩ = some (.int .i64 o.at_) := cell_of_row _ g 0 _ _ _ hh
          have hc1 : wr.cell? ⟨g, 1, none⟩ = some (.int .i64 o.size) := cell_of_row _ g 1 _ _ _ hh
          have hc2 : wr.cell? ⟨g, 2, none⟩ = some (.string o.text) := cell_of_row _ g 2 _ _ _ hh
          have hc3 : wr.cell? ⟨g, 3, none⟩ = some (.pointer q) := cell_of_row _ g 3 _ _ _ hh
          have hfz : wr.frozen? ⟨g, 2, none⟩ = false := frozen_of_row _ g 2 _ _ hh
          have HL2 := Lib.hid hL2
          have HH := Lib.hid hh
          have htx : o.text.size ≤ 8 := fit_text (HI.out.fit o (List.mem_cons_self ..))
          clear hL2 hh
          by_cases ho : o.size = 0
          · have hd : (o.size == 0) = true := by simp [ho]
            rw [addD_join hc ho] at hst hmk
            have HST := Lib.hid hst
            have HMK := Lib.hid hmk
            clear hst hmk ho
            go_wp2_with fail
            refine (longest_any b s m _ hb8 hs8 HMW.out).mono ?_
            rintro e w2 ⟨rfl, rfl⟩
            go_wp2_with fail
            have h2 : (1 : Int) ≤ (s.size : Int) := by omega
            have hn1 : ¬ (9223372036854775807 < o.text.size + min 1 s.size) := by omega
            have hn2 : o.text.size + min 1 s.size ≤ 9223372036854775807 := by omega
            have hadd : ∀ W : World, (Op.stringOp .add o.text (s.extract 0 1)).run Tryz.prog W = .ok (.string (o.text ++ s.extract 0 1)) W := fun W => run_string_add_sum W _ _ (by rw [ByteArray.size_extract]; omega)
            go_still_tail 11, (by kernel_rfl)
            change wpList _ _ _ _ _ wr.drew
            go_wp2_with fail
            have HL3 := Lib.hid (HL.out.join (o.text ++ s.extract 0 1))
            exact ⟨⟨_, _, _, rfl, rfl, by rw [ByteArray.size_extract]; omega, HST.out, Lib.hid (HMK.out.symm.trans HE.out), HL3.out.more (Nat.le_of_eq (by simp)), below_drewN (HB.out.setCell hgb _) 1⟩, by simp [strLen, ByteArray.size_extract]; omega⟩
          · have hd : (o.size == 0) = false := by simp [ho]
            rw [addD_ins hc ho] at hst hmk
            have HST := Lib.hid hst
            have HMK := Lib.hid hmk
            clear hst hmk ho
            go_wp2_with fail
            refine (longest_any b s m _ hb8 hs8 HMW.out).mono ?_
            rintro e w2 ⟨rfl, rfl⟩
            go_wp2_with fail
            have HL3 := Lib.hid (HL.out.cons (Nat.le_refl _) hwsz ⟨0, 0, s.extract 0 1⟩)
            exact ⟨⟨_, _, _, rfl, rfl, by rw [ByteArray.size_extract]; omega, HST.out, Lib.hid (HMK.out.symm.trans HE.out), HL3.out.more (Nat.le_of_eq (by simp)), HB.out.alloc hwsz _⟩, by simp [strLen, ByteArray.size_extract]; omega⟩
    · have hs0 : s.size = 0 := by omega
      have hmk := mkD_nil (b := b) (r := r) hs0
      have HMK := Lib.hid hmk
      have hlen := HI.out.len
      have hcat := congrArg ByteArray.size HI.out.cat
      rw [ByteArray.size_append] at hcat
      clear hmk
      go_wp2_with fail
      refine (opsRev_any r p wr (by omega) ((HL.out.more (Nat.le_refl _)).low)).mono ?_
      rintro e w2 ⟨v, hown2, hb2, rfl⟩
      have HO2 := Lib.hid hown2
      have HB2 : Hid (Below w.heap.size w w2) := HB.out.trans (hb2.mono hwsz)
      clear hown2 hb2
      go_wp2_with fail
      go_ret
      exact ⟨_, by rw [HY.out, ← HE.out, HMK.out, List.length_reverse]; exact own_lowP HO2.out hwsz, HB2.out, rfl⟩

end Go.Proofs.YtnaeglfochnikaaGreat
