/-
  The walk of markText: the text that stands for a number; and how a marked row is read. Condition: the number is positive and small.
  Plain words for a law about results with depth: intervals of blocks, what a mark leaves of other data, and how many numbers a datum holds. No condition.
  The walks of markIntS and heldIntS: numbers and texts are turned into marks; such marks are told. Condition: few elements, small marks.
  The walks of markObjectS and heldObjectS: numbers and texts are turned into marks; such marks are told. Condition: few elements, small marks.
  How an argument that is a slice of structs of one-cell fields is opened to a list (after the guide's small lemmas on structs). No condition.
-/
import Derived.Test.YtnaeglfochnikaaGreatZ14
import Derived.Test.YtnaeglfochnikaaGreatZ4
import Derived.Deep.RegionHeld3
import Derived.Test.YtnaeglfochnikaaGreatTObject
import Derived.Test.YtnaeglfochnikaaGreatZ3
import Derived.Deep.Slices
import Derived.Deep.Fields
import Derived.ChangeSame
namespace Go.Proofs.YtnaeglfochnikaaGreat
set_option linter.unusedVariables false
set_option linter.unusedSimpArgs false
open Go.RowKit

theorem digT_zero (s : List UInt8) : digT 0 s = s := by rw [digT, if_pos rfl]
theorem digT_pos {k : Nat} (h : 0 < k) (s : List UInt8) : digT k s = digT (k / 10) (UInt8.ofNat (48 + k % 10) :: s) := by rw [digT, if_neg (by omega)]
theorem digT_len (k : Nat) : ∀ s, (digT k s).length ≤ k + s.length := by
  induction k using Nat.strongRecOn with
  | _ k ih =>
    intro s
    rcases Nat.eq_zero_or_pos k with h | h
    · subst h; rw [digT_zero]; omega
    · rw [digT_pos h]
      have := ih (k / 10) (by omega) (UInt8.ofNat (48 + k % 10) :: s)
      simp only [List.length_cons] at this
      omega
theorem markT_size (k : Nat) : (markT k).size ≤ k + 1 := by
  have := digT_len k []
  show ((109 :: digT k []).toArray).size ≤ k + 1
  simp at this ⊢; omega
theorem bytes_ext2 {a b : ByteArray} (h : a.data.toList = b.data.toList) : a = b := by
  rcases a with ⟨⟨a⟩⟩; rcases b with ⟨⟨b⟩⟩; simp at h; subst h; rfl
theorem str_one (k : Nat) : (strOfNums [48 + ((k : Int) % 10)]).data.toList = [UInt8.ofNat (48 + k % 10)] := by
  have e : (48 + ((k : Int) % 10)) = ((48 + k % 10 : Nat) : Int) := by omega
  rw [e]
  show [UInt8.ofNat ((48 + k % 10 : Nat) : Int).toNat] = _
  rw [Int.toNat_natCast]

set_option maxHeartbeats 800000 in
set_option maxRecDepth 100000 in
theorem markText_d (k : Nat) (ki : Int) (w : World) (hki : ki = (k : Int)) (h1 : 1 ≤ k) (hk : k ≤ 1099511627776) :
    Calls Tryz.prog 34 #[.int .i64 ki] w fun e w' => e = .returned (.string (markT k)) ∧ Below w.heap.size w w' := by
  subst hki
  go_enter Tryz.func34, Tryz.ntmps34
  go_wp2_with fail
  go_loopw [0, 3] (fun p t wr => ∃ (q : Nat) (s : ByteArray), q ≤ k ∧ p = .int .i64 q ∧ t = .string s ∧ s.size + q ≤ k ∧ Hid (digT q s.data.toList = digT k []) ∧ Below w.heap.size w wr) (fun p _ _ => (intOf p).toNat)
  case atStart => exact ⟨k, ⟨#[]⟩, Nat.le_refl _, rfl, rfl, by show 0 + k ≤ k; omega, rfl, Below.refl _ _⟩
  case round =>
    obtain ⟨q, s, hq, rfl, rfl, hsz, HD, hb⟩ := hrel
    have HB := Lib.hid hb
    have hwsz := hb.size
    clear hb
    by_cases hq0 : 0 < q
    · have hcv := conv_one wr (48 + ((q : Int) % 10))
      have hs1 : (strOfNums [48 + ((q : Int) % 10)]).size = 1 := by rw [strOfNums_size]; rfl
      have HS1 := Lib.hid hs1
      have hs2 : (strOfNums [48 + ((q : Int) % 10)]).size + s.size ≤ 9223372036854775807 := by omega
      have HN : Hid (digT (q / 10) (strOfNums [48 + ((q : Int) % 10)] ++ s).data.toList = digT k []) := by
        show _ = _
        rw [← HD.out, digT_pos hq0, ByteArray.data_append, Array.toList_append, str_one]; rfl
      clear hs1
      go_wp2_with fail
      go_roundw
      case rel => exact ⟨q / 10, _, by omega, by go_num, rfl, by rw [ByteArray.size_append, HS1.out]; omega, HN, HB.out.alloc hwsz _⟩
      case measure => simp [intOf]; omega
    · have hq1 : q = 0 := by omega
      subst hq1
      have HN : Hid ((⟨#[109]⟩ : ByteArray) ++ s = markT k) := by
        show _ = _
        refine bytes_ext2 ?_
        have h2 := HD.out
        rw [digT_zero] at h2
        rw [ByteArray.data_append, Array.toList_append, h2]
        rfl
      go_wp2_with fail
      go_ret
      exact ⟨by first | rfl | (rw [HN.out]; rfl), HB.out⟩

/-- one number or text of a row of the call's own -/
theorem own_put {w : World} {m n n' c g o p i : Nat} {es : List D} {F : List Nat} {d : D} (h : D.own w (.arr m n es) F (.slice (some ⟨g, o, none⟩) n' c)) (hF : F.Nodup) (hq : es[p + i]? = some d) (hs : (∃ x, d = .int x) ∨ ∃ s, d = .str s) (d' : D) (v' : Value) (hv : ∀ W, D.own W d' [] v') :
    (∃ u, w.cell? ⟨g, o + p + i, none⟩ = some u) ∧ w.frozen? ⟨g, o + p + i, none⟩ = false ∧ g ∈ F ∧ D.own (w.setCell ⟨g, o + p + i, none⟩ v') (.arr m n (es.set (p + i) d')) F (.slice (some ⟨g, o, none⟩) n' c) := by
  obtain ⟨v, Fq, h1, h2, h3, h4, h5, h6, h7, h8, h9⟩ := own_sub h hF hq
  rw [← Nat.add_assoc] at h1 h2
  refine ⟨⟨v, h1⟩, h2, h6, ?_⟩
  have := h9 d' v' (own_scalar h3 hs) hv
  rwa [← Nat.add_assoc] at this
/-- one row of a row of the call's own -/
theorem own_arr {w : World} {m n n' c g o p i m2 n2 : Nat} {es es2 : List D} {F : List Nat} (h : D.own w (.arr m n es) F (.slice (some ⟨g, o, none⟩) n' c)) (hF : F.Nodup) (hq : es[p + i]? = some (.arr m2 n2 es2)) :
    ∃ A2 c2 Fq, w.cell? ⟨g, o + p + i, none⟩ = some (.slice A2 n2 c2) ∧ D.own w (.arr m2 n2 es2) Fq (.slice A2 n2 c2) ∧ Fq.Nodup ∧ (∀ x ∈ Fq, x ∈ F) ∧ g ∈ F ∧ g ∉ Fq ∧
      (∀ (w' : World) (d' : D), Chg w w' Fq → (∀ x ∈ F, x < w.heap.size) → D.own w' d' Fq (.slice A2 n2 c2) → D.own w' (.arr m n (es.set (p + i) d')) F (.slice (some ⟨g, o, none⟩) n' c)) := by
  obtain ⟨v, Fq, h1, h2, h3, h4, h5, h6, h7, h8, h9⟩ := own_sub h hF hq
  rw [← Nat.add_assoc] at h1
  have h3' := h3
  unfold D.own at h3'
  obtain ⟨A2, c2, vs, F', rfl, _⟩ := h3'
  exact ⟨A2, c2, Fq, h1, h3, h4, h5, h6, h7, h8⟩

theorem bel_dr2 {W W' : World} (h : Below W.drew.heap.size W.drew W') : Below W.heap.size W W' := ⟨h.os, h.tape, h.output, h.size, h.block⟩
theorem mark_rd_inv {w : World} {lo hi m n k : Nat} {es : List D} {v : Value} (h : D.rd w lo hi (D.mark (.arr m n es) k) v) : ∃ A c, v = .slice A n c ∧ D.rd w lo hi (D.mark (.arr m n es) k) (.slice A n c) := by
  rw [mark_arr] at h ⊢
  obtain ⟨A, c, rfl, -, -, h2⟩ := h.arr_inv
  exact ⟨A, c, rfl, h2⟩
/-- what a function that marks leaves -/
def MarkR (d : D) (k : Nat) (F : List Nat) (v : Value) (w : World) (e : Ending) (w' : World) : Prop := D.own w' (D.mark d k) F v ∧ Chg w w' F ∧ e = .returned (.int .i64 ((k + D.cnt d : Nat) : Int))
/-- what a function that asks for marks answers -/
def HeldR (d : D) (k : Nat) (w : World) (e : Ending) (w' : World) : Prop := Below w.heap.size w w' ∧ e = .returned (.int .i64 ((k + D.cnt d : Nat) : Int))

/-- a row that is not empty, field by field -/
theorem rd_row {w : World} {lo hi m n n' c : Nat} {es : List D} {A : Option Addr} (h : D.rd w lo hi (.arr m n es) (.slice A n' c)) (hn : 0 < n) (hm : 0 < m) :
    ∃ b o, A = some ⟨b, o, none⟩ ∧ lo ≤ b ∧ b < hi ∧ ∀ (p i : Nat) (d : D), es[p + i]? = some d → ∃ u, w.cell? ⟨b, o + p + i, none⟩ = some u ∧ D.rd w lo hi d u := by
  unfold D.rd at h
  obtain ⟨A', c', vs, e, g2, g3, g4, g5, g6⟩ := h
  injection e with e1 e2 e3
  subst e1
  have hvl := D.rdL.length g6
  have hne : vs ≠ [] := by
    intro e
    subst e
    have h0 := Nat.mul_pos hn hm
    rw [← hvl] at g4
    simp at g4; omega
  obtain ⟨b, o, rfl, k1, k2, hc⟩ := g5 hne
  refine ⟨b, o, rfl, k1, k2, fun p i d hd => ?_⟩
  obtain ⟨u, hu, hr⟩ := D.rdL.get g6 hd
  refine ⟨u, ?_, hr⟩
  have := hc _ _ hu
  rwa [← Nat.add_assoc] at this
theorem markL_get {α : Type} {f : α → List D} {m : Nat} (hf : ∀ x, (f x).length = m) {xs : List α} {k j : Nat} (hj : j < xs.length) {i : Nat} (hi : i < m) : (D.markL (xs.flatMap f) k)[j * m + i]? = (D.markL (f xs[j]) (k + cntTo f xs j))[i]? := by
  have e : xs.flatMap f = (xs.take j).flatMap f ++ (f xs[j] ++ (xs.drop (j + 1)).flatMap f) := by
    have h1 : xs.flatMap f = (xs.take j).flatMap f ++ (xs.drop j).flatMap f := by rw [← List.flatMap_append, List.take_append_drop]
    rw [h1, List.drop_eq_getElem_cons hj, List.flatMap_cons]
  rw [e, markL_app, markL_app, List.getElem?_append_right (by rw [markTo_pre hf hj]; omega), markTo_pre hf hj, Nat.add_sub_cancel_left, List.getElem?_append_left (by rw [markL_len, hf]; exact hi)]
  rfl

def fInt (x : Int) : List D := [.int x]
theorem fInt_len (x : Int) : (fInt x).length = 1 := rfl
theorem intsD_flat (xs : List Int) : intsD xs = .arr 1 xs.length (xs.flatMap fInt) := by
  unfold intsD
  congr 1
  induction xs with
  | nil => rfl
  | cons x xs ih => rw [List.map_cons, List.flatMap_cons, ih]; rfl

end Go.Proofs.YtnaeglfochnikaaGreat

namespace Go.Proofs.YtnaeglfochnikaaGreat
set_option linter.unusedVariables false
set_option linter.unusedSimpArgs false
open Go.RowKit

/-- a value in memory of its own, in blocks from lo on and below hi -/
def OwnI (w : World) (lo hi : Nat) (d : D) (v : Value) : Prop := ∃ F : List Nat, F.Nodup ∧ (∀ g ∈ F, lo ≤ g ∧ g < hi) ∧ D.own w d F v
section
variable {w w' : World} {lo hi lo' hi' C : Nat} {d : D} {v : Value} {F : List Nat}
theorem Own.ival (h : Own w lo d v) : OwnI w lo w.heap.size d v := h
theorem OwnI.rd (h : OwnI w lo hi d v) : D.rd w lo hi d v := by
  obtain ⟨F, _, h2, h3⟩ := h
  exact D.own.rd d F v h2 h3
theorem OwnI.below (h : OwnI w lo hi d v) (hb : Below C w w') (hC : hi ≤ C) : OwnI w' lo hi d v := by
  obtain ⟨F, h1, h2, h3⟩ := h
  exact ⟨F, h1, h2, D.own.keep d F v (fun g hg => hb.block g (Nat.lt_of_lt_of_le (h2 g hg).2 hC)) h3⟩
theorem OwnI.chg (h : OwnI w lo hi d v) (hc : Chg w w' F) (hhi : hi ≤ w.heap.size) (hF : ∀ g ∈ F, g < lo ∨ hi ≤ g) : OwnI w' lo hi d v := by
  obtain ⟨G, h1, h2, h3⟩ := h
  refine ⟨G, h1, h2, D.own.keep d G v (fun g hg => hc.2.2.2.2 g (Nat.lt_of_lt_of_le (h2 g hg).2 hhi) (fun hm => ?_)) h3⟩
  have := hF g hm
  have := h2 g hg
  omega
theorem D.rd.chg (h : D.rd w lo hi d v) (hc : Chg w w' F) (hhi : hi ≤ w.heap.size) (hF : ∀ g ∈ F, g < lo ∨ hi ≤ g) : D.rd w' lo hi d v :=
  D.rd.keep (fun p g1 g2 => World.cell?_of_block (hc.2.2.2.2 p.block (Nat.lt_of_lt_of_le g2 hhi) (fun hm => by have := hF _ hm; omega))) (Nat.le_refl _) (Nat.le_refl _) _ _ h
end

theorem cnt_flat {α : Type} (f : α → List D) (h : ∀ x, D.cntL (f x) ≤ 3 + 3 * D.szL (f x)) (xs : List α) : D.cntL (xs.flatMap f) ≤ 3 * xs.length + 3 * D.szL (xs.flatMap f) := by
  induction xs with
  | nil => rw [List.flatMap_nil, cntL_nil]; omega
  | cons x xs ih =>
    rw [List.flatMap_cons, cntL_app, szL_app, List.length_cons]
    have := h x
    omega
theorem cnt_arr_le {α : Type} (f : α → List D) (h : ∀ x, D.cntL (f x) ≤ 3 + 3 * D.szL (f x)) (m : Nat) (xs : List α) : D.cnt (.arr m xs.length (xs.flatMap f)) ≤ 3 * D.sz (.arr m xs.length (xs.flatMap f)) := by
  rw [cnt_arr, sz_arr]
  have := cnt_flat f h xs
  omega
theorem cnt_ints (xs : List Int) : D.cnt (intsD xs) = xs.length := by
  unfold intsD
  rw [cnt_arr]
  induction xs with
  | nil => rw [List.map_nil, cntL_nil]; rfl
  | cons x xs ih => rw [List.map_cons, cntL_cons, cnt_int, ih, List.length_cons]; omega

end Go.Proofs.YtnaeglfochnikaaGreat

namespace Go.Proofs.YtnaeglfochnikaaGreat
set_option linter.unusedVariables false
set_option linter.unusedSimpArgs false
open Go.RowKit

set_option maxRecDepth 100000 in
set_option maxHeartbeats 3200000 in
theorem markIntS_d (xs : List Int) (A : Option Addr) (n c k : Nat) (ki : Int) (FF : List Nat) (w : World) (hki : ki = (k : Int)) (h1 : 1 ≤ k) (hk : k + D.cnt (intsD xs) ≤ 1099511627776) (hF : FF.Nodup) (hlt : ∀ x ∈ FF, x < w.heap.size) (h : D.own w (intsD xs) FF (.slice A n c)) :
    Calls Tryz.prog 14 #[.slice A n c, .int .i64 ki] w fun e w' => MarkR (intsD xs) k FF (.slice A n c) w e w' := by
  subst hki
  rw [intsD_flat] at h hk ⊢
  have hl := own_len h
  have hn : xs.length = n := hl.1.symm
  have hnc := hl.2.1
  have hc63 := hl.2.2.1
  clear hl
  rw [hn] at h hk hnc ⊢
  rw [cnt_arr] at hk
  rcases Nat.eq_zero_or_pos n with h0 | h0
  · subst h0
    have hx : xs = [] := List.eq_nil_of_length_eq_zero hn
    subst hx
    have HO := Lib.hid h
    clear h hn
    go_enter Tryz.func14, Tryz.ntmps14
    go_wp2_with fail
    refine wp_loop_rounds 1 ?_
    rw [rounds_succ]
    go_wp2_with fail
    go_ret
    refine ⟨?_, Chg.refl _ _, ?_⟩
    · rw [mark_arr, List.flatMap_nil, markL_nil]; exact HO.out
    · rw [cnt_arr, List.flatMap_nil, cntL_nil]; rfl
  · obtain ⟨g, o, rfl, hgF⟩ := own_row h h0 (by omega)
    have HO := Lib.hid h
    have HF := Lib.hid hF
    have HLT := Lib.hid hlt
    have HK := Lib.hid hk
    have HN := Lib.hid hn
    clear h hF hlt hk hn
    go_enter Tryz.func14, Tryz.ntmps14
    go_wp2_with fail
    go_loopw [1, 5] (fun l i wr => ∃ j : Nat, j ≤ n ∧ i = .int .i64 j ∧ l = .int .i64 ((k + cntTo fInt xs j : Nat) : Int) ∧ D.own wr (.arr 1 n (markTo fInt xs k j)) FF (.slice (some ⟨g, o, none⟩) n c) ∧ Chg w wr FF) (fun _ i _ => n - (intOf i).toNat)
    case atStart => exact ⟨0, Nat.zero_le _, rfl, by rw [cntTo_zero]; rfl, by rw [markTo_zero]; exact HO.out, Chg.refl _ _⟩
    case round =>
      obtain ⟨j, hj, rfl, rfl, hown, hch⟩ := hrel
      have H0 := Lib.hid hown
      have HC0 := Lib.hid hch
      have hws := hch.2.2.2.1
      have HL0 : Hid (∀ x ∈ FF, x < wr.heap.size) := fun x hx => Nat.lt_of_lt_of_le (HLT.out x hx) hws
      clear hown hch
      by_cases hlt : j < n
      · have hjl : j < xs.length := by rw [HN.out]; exact hlt
        obtain ⟨q, hq⟩ : ∃ q, k + cntTo fInt xs j = q := ⟨_, rfl⟩
        have hq00 : 1 ≤ q := by omega
        have hqk : q + D.cntL (fInt xs[j]) ≤ 1099511627776 := by
          have h2 := cntTo_le (f := fInt) (xs := xs) (j := j + 1) (by omega)
          rw [cntTo_succ hjl] at h2
          have h3 := HK.out
          omega
        have HQ := Lib.hid hq
        have hcs : D.cntL (fInt xs[j]) = 1 := by
          unfold fInt
          simp only [cntL_cons, cntL_nil, cnt_int, cnt_str]
          try omega
        have HCS := Lib.hid hcs
        rw [hcs] at hqk
        rw [hq]
        clear hq hcs
        obtain ⟨⟨u0, hg0⟩, hf0, -, hp0⟩ := own_put H0.out HF.out (p := j * 1) (i := 0) (markTo_get fInt_len hjl (by omega)) (.inl ⟨_, rfl⟩) (.int (((q : Nat) : Int))) (.int .i64 (((q : Nat) : Int))) (fun W => D.own.int W _)
        simp only [Nat.add_zero, Nat.mul_one] at hg0 hf0 hp0
        have HP0 := Lib.hid hp0
        clear hp0
        have HC100 := Lib.hid (HC0.out.set hgF (o + j) (.int .i64 (((q : Nat) : Int))))
        have HL100 : Hid (∀ x ∈ FF, x < (wr.setCell ⟨g, o + j, none⟩ (.int .i64 (((q : Nat) : Int)))).heap.size) := fun x hx => by simpa [World.setCell] using HL0.out x hx
        have hm : D.markL (fInt xs[j]) q = [.int (((q : Nat) : Int))] := by
          unfold fInt
          simp only [markL_cons, markL_nil, mark_int, mark_str, cnt_int, cnt_str]
          try rfl
        have HFIN : Hid (setsD (markTo fInt xs k j) (j * 1) [.int (((q : Nat) : Int))] = markTo fInt xs k (j + 1)) := by
          show _ = _
          rw [← markTo_step fInt_len hjl, HQ.out, hm]
        clear hm
        have HCN : Hid ((((q + 1 : Nat) : Int)) = ((k + cntTo fInt xs (j + 1) : Nat) : Int)) := by
          show _ = _
          have h1 := HQ.out
          have h2 := HCS.out
          rw [cntTo_succ hjl, h2]
          omega
        go_wp2_with fail
        exact ⟨⟨j + 1, by omega, by go_num, by first | (rw [← HCN.out]; done) | (rw [← HCN.out]; rfl) | (rw [← HCN.out]; congr 1), by rw [← HFIN.out]; first | exact HP0.out | simpa [setsD] using HP0.out, HC100.out⟩, by simp [intOf]; omega⟩
      · have hjn : j = n := by omega
        subst hjn
        go_wp2_with fail
        go_ret
        exact ⟨by rw [mark_arr, ← markTo_all HN.out]; exact H0.out, HC0.out, by rw [cnt_arr, ← cntTo_all HN.out]; rfl⟩

set_option maxRecDepth 100000 in
set_option maxHeartbeats 3200000 in
theorem heldIntS_d (xs : List Int) (A : Option Addr) (n c k : Nat) (ki : Int) (w : World) (lo hi : Nat) (hh : hi ≤ w.heap.size) (hki : ki = (k : Int)) (h1 : 1 ≤ k) (hk : k + D.cnt (intsD xs) ≤ 1099511627776) (h : D.rd w lo hi (D.mark (intsD xs) k) (.slice A n c)) :
    Calls Tryz.prog 36 #[.slice A n c, .int .i64 ki] w fun e w' => HeldR (intsD xs) k w e w' := by
  subst hki
  rw [intsD_flat] at h hk ⊢
  rw [mark_arr] at h
  rw [cnt_arr] at hk
  have hn : xs.length = n := h.len.1.symm
  have hnc := h.len.2.1
  have hc63 := h.len.2.2
  rw [hn] at h hnc ⊢
  have HI := Lib.hid h
  have HK := Lib.hid hk
  have HN := Lib.hid hn
  clear h hk hn
  go_enter Tryz.func36, Tryz.ntmps36
  go_wp2_with fail
  go_loopw [1, 5] (fun l i wr => ∃ j : Nat, j ≤ n ∧ i = .int .i64 j ∧ l = .int .i64 ((k + cntTo fInt xs j : Nat) : Int) ∧ Below w.heap.size w wr) (fun _ i _ => n - (intOf i).toNat)
  case atStart => exact ⟨0, Nat.zero_le _, rfl, by rw [cntTo_zero]; rfl, Below.refl _ _⟩
  case round =>
    obtain ⟨j, hj, rfl, rfl, hb⟩ := hrel
    have HB0 := Lib.hid hb
    have hws0 := hb.size
    clear hb
    by_cases hlt : j < n
    · have hjl : j < xs.length := by rw [HN.out]; exact hlt
      obtain ⟨b, o, rfl, _, hbh, hc⟩ := rd_row (HI.out.below HB0.out hh) (by omega) (by omega)
      obtain ⟨q, hq⟩ : ∃ q, k + cntTo fInt xs j = q := ⟨_, rfl⟩
      have hq00 : 1 ≤ q := by omega
      have hqk : q + D.cntL (fInt xs[j]) ≤ 1099511627776 := by
        have h2 := cntTo_le (f := fInt) (xs := xs) (j := j + 1) (by omega)
        rw [cntTo_succ hjl] at h2
        have h3 := HK.out
        omega
      have HQ := Lib.hid hq
      have hcs : D.cntL (fInt xs[j]) = 1 := by
        unfold fInt
        simp only [cntL_cons, cntL_nil, cnt_int, cnt_str]
        try omega
      have HCS := Lib.hid hcs
      rw [hcs] at hqk
      rw [hq]
      have hbw : b < wr.heap.size := by omega
      clear hq hcs
      have hm : D.markL (fInt xs[j]) q = [.int (((q : Nat) : Int))] := by
        unfold fInt
        simp only [markL_cons, markL_nil, mark_int, mark_str, cnt_int, cnt_str]
        try rfl
      obtain ⟨u0, hg0, hr0⟩ := hc (j * 1) 0 (.int (((q : Nat) : Int))) ((markL_get fInt_len hjl (by omega)).trans (by rw [HQ.out, hm]; rfl))
      simp only [Nat.add_zero, Nat.mul_one] at hg0
      obtain rfl := hr0.int_inv
      clear hm hc
      have HCN : Hid ((((q + 1 : Nat) : Int)) = ((k + cntTo fInt xs (j + 1) : Nat) : Int)) := by
        show _ = _
        have h1 := HQ.out
        have h2 := HCS.out
        rw [cntTo_succ hjl, h2]
        omega
      go_wp2_with fail
      exact ⟨⟨j + 1, by omega, by go_num, by first | (rw [← HCN.out]; done) | (rw [← HCN.out]; rfl) | (rw [← HCN.out]; congr 1), HB0.out⟩, by simp [intOf]; omega⟩
    · have hjn : j = n := by omega
      subst hjn
      go_wp2_with fail
      go_ret
      exact ⟨HB0.out, by rw [cnt_arr, ← cntTo_all HN.out]; rfl⟩

end Go.Proofs.YtnaeglfochnikaaGreat

namespace Go.Proofs.YtnaeglfochnikaaGreat
set_option linter.unusedVariables false
set_option linter.unusedSimpArgs false
open Go.RowKit

theorem dObjects_flat (xs : List ObjD) : dObjects xs = .arr 3 xs.length (xs.flatMap fObject) := rfl

set_option maxRecDepth 100000 in
set_option maxHeartbeats 3200000 in
theorem markObjectS_d (xs : List ObjD) (A : Option Addr) (n c k : Nat) (ki : Int) (FF : List Nat) (w : World) (hki : ki = (k : Int)) (h1 : 1 ≤ k) (hk : k + D.cnt (dObjects xs) ≤ 1099511627776) (hF : FF.Nodup) (hlt : ∀ x ∈ FF, x < w.heap.size) (h : D.own w (dObjects xs) FF (.slice A n c)) :
    Calls Tryz.prog 13 #[.slice A n c, .int .i64 ki] w fun e w' => MarkR (dObjects xs) k FF (.slice A n c) w e w' := by
  subst hki
  rw [dObjects_flat] at h hk ⊢
  have hl := own_len h
  have hn : xs.length = n := hl.1.symm
  have hnc := hl.2.1
  have hc63 := hl.2.2.1
  clear hl
  rw [hn] at h hk hnc ⊢
  rw [cnt_arr] at hk
  rcases Nat.eq_zero_or_pos n with h0 | h0
  · subst h0
    have hx : xs = [] := List.eq_nil_of_length_eq_zero hn
    subst hx
    have HO := Lib.hid h
    clear h hn
    go_enter Tryz.func13, Tryz.ntmps13
    go_wp2_with fail
    refine wp_loop_rounds 1 ?_
    rw [rounds_succ]
    go_wp2_with fail
    go_ret
    refine ⟨?_, Chg.refl _ _, ?_⟩
    · rw [mark_arr, List.flatMap_nil, markL_nil]; exact HO.out
    · rw [cnt_arr, List.flatMap_nil, cntL_nil]; rfl
  · obtain ⟨g, o, rfl, hgF⟩ := own_row h h0 (by omega)
    have HO := Lib.hid h
    have HF := Lib.hid hF
    have HLT := Lib.hid hlt
    have HK := Lib.hid hk
    have HN := Lib.hid hn
    clear h hF hlt hk hn
    go_enter Tryz.func13, Tryz.ntmps13
    go_wp2_with fail
    go_loopw [1, 5] (fun l i wr => ∃ j : Nat, j ≤ n ∧ i = .int .i64 j ∧ l = .int .i64 ((k + cntTo fObject xs j : Nat) : Int) ∧ D.own wr (.arr 3 n (markTo fObject xs k j)) FF (.slice (some ⟨g, o, none⟩) n c) ∧ Chg w wr FF) (fun _ i _ => n - (intOf i).toNat)
    case atStart => exact ⟨0, Nat.zero_le _, rfl, by rw [cntTo_zero]; rfl, by rw [markTo_zero]; exact HO.out, Chg.refl _ _⟩
    case round =>
      obtain ⟨j, hj, rfl, rfl, hown, hch⟩ := hrel
      have H0 := Lib.hid hown
      have HC0 := Lib.hid hch
      have hws := hch.2.2.2.1
      have HL0 : Hid (∀ x ∈ FF, x < wr.heap.size) := fun x hx => Nat.lt_of_lt_of_le (HLT.out x hx) hws
      clear hown hch
      by_cases hlt : j < n
      · have hjl : j < xs.length := by rw [HN.out]; exact hlt
        obtain ⟨q, hq⟩ : ∃ q, k + cntTo fObject xs j = q := ⟨_, rfl⟩
        have hq00 : 1 ≤ q := by omega
        have hqk : q + D.cntL (fObject xs[j]) ≤ 1099511627776 := by
          have h2 := cntTo_le (f := fObject) (xs := xs) (j := j + 1) (by omega)
          rw [cntTo_succ hjl] at h2
          have h3 := HK.out
          omega
        have HQ := Lib.hid hq
        have hcs : D.cntL (fObject xs[j]) = 1 + D.cnt (intsD xs[j].links) + 1 := by
          unfold fObject
          simp only [cntL_cons, cntL_nil, cnt_int, cnt_str]
          try omega
        have HCS := Lib.hid hcs
        rw [hcs] at hqk
        rw [hq]
        clear hq hcs
        obtain ⟨⟨u0, hg0⟩, hf0, -, hp0⟩ := own_put H0.out HF.out (p := j * 3) (i := 0) (markTo_get fObject_len hjl (by omega)) (.inl ⟨_, rfl⟩) (.int (((q : Nat) : Int))) (.int .i64 (((q : Nat) : Int))) (fun W => D.own.int W _)
        simp only [Nat.add_zero, Nat.mul_one] at hg0 hf0 hp0
        have HP0 := Lib.hid hp0
        clear hp0
        have HC100 := Lib.hid (HC0.out.set hgF (o + j * 3) (.int .i64 (((q : Nat) : Int))))
        have HL100 : Hid (∀ x ∈ FF, x < (wr.setCell ⟨g, o + j * 3, none⟩ (.int .i64 (((q : Nat) : Int)))).heap.size) := fun x hx => by simpa [World.setCell] using HL0.out x hx
        obtain ⟨A1, c1, F1, hs1, ho1, hn1, hsub1, -, hgn1, hre1⟩ := own_arr HP0.out HF.out (p := j * 3) (i := 1) ((List.getElem?_set_ne (by omega)).trans (markTo_get fObject_len hjl (by omega)))
        have HO1 := Lib.hid ho1
        have HS1 := Lib.hid hsub1
        have HR1 := Lib.hid hre1
        have HND1 := Lib.hid hn1
        clear ho1 hsub1 hre1 hn1 hgn1
        go_wp2_with fail
        refine (markIntS_d xs[j].links A1 _ c1 (q + 1) _ F1 _ (by first | rfl | (simp; done) | omega) (by omega) (by omega) HND1.out (fun x hx => HL100.out x (HS1.out x hx)) HO1.out).mono ?_
        rintro e w1 ⟨ho1, hch1, rfl⟩
        have HC101 := Lib.hid (HC100.out.tr (hch1.more HS1.out))
        have HL101 : Hid (∀ x ∈ FF, x < w1.heap.size) := fun x hx => Nat.lt_of_lt_of_le (HL100.out x hx) hch1.2.2.2.1
        have HP1 := Lib.hid (HR1.out w1 _ hch1 HL100.out ho1)
        clear ho1 hch1
        obtain ⟨q1, hq1⟩ : ∃ q1 : Nat, q1 = q + 1 + D.cnt (intsD xs[j].links) := ⟨_, rfl⟩
        rw [← hq1]
        have hqb1 : q1 ≤ 1099511627776 := by omega
        have hqc1 : 1 ≤ q1 := by omega
        have HQ1 := Lib.hid hq1
        have hqe1 : q + 1 + D.cnt (intsD xs[j].links) ≤ q1 := by omega
        have hqf1 : q1 ≤ q + 1 + D.cnt (intsD xs[j].links) := by omega
        clear hq1
        go_wp2_with fail
        refine (markText_d (q1) _ _ (by first | rfl | (simp; done) | omega) (by omega) (by omega)).mono ?_
        rintro e w2 ⟨rfl, hb2⟩
        have HC202 := Lib.hid (HC101.out.bel hb2)
        have HL202 : Hid (∀ x ∈ FF, x < w2.heap.size) := fun x hx => Nat.lt_of_lt_of_le (HL101.out x hx) hb2.size
        have HT2 := Lib.hid (D.own.keep _ FF _ (fun x hx => hb2.block x (HL101.out x hx)) HP1.out)
        clear hb2
        obtain ⟨⟨u2, hg2⟩, hf2, -, hp2⟩ := own_put HT2.out HF.out (p := j * 3) (i := 2) ((List.getElem?_set_ne (by omega)).trans ((List.getElem?_set_ne (by omega)).trans (markTo_get fObject_len hjl (by omega)))) (.inr ⟨_, rfl⟩) (.str (markT (q1))) (.string (markT (q1))) (fun W => D.own.str W (by have := markT_size (q1); omega))
        have HP2 := Lib.hid hp2
        clear hp2
        have HC102 := Lib.hid (HC202.out.set hgF (o + j * 3 + 2) (.string (markT (q1))))
        have HL102 : Hid (∀ x ∈ FF, x < (w2.setCell ⟨g, o + j * 3 + 2, none⟩ (.string (markT (q1)))).heap.size) := fun x hx => by simpa [World.setCell] using HL202.out x hx
        have hm : D.markL (fObject xs[j]) q = [.int (((q : Nat) : Int)), D.mark (intsD xs[j].links) (q + 1), .str (markT (q1))] := by
          unfold fObject
          simp only [markL_cons, markL_nil, mark_int, mark_str, cnt_int, cnt_str]
          try rw [HQ1.out]
          try rfl
        have HFIN : Hid (setsD (markTo fObject xs k j) (j * 3) [.int (((q : Nat) : Int)), D.mark (intsD xs[j].links) (q + 1), .str (markT (q1))] = markTo fObject xs k (j + 1)) := by
          show _ = _
          rw [← markTo_step fObject_len hjl, HQ.out, hm]
        clear hm
        have HCN : Hid ((((q1 + 1 : Nat) : Int)) = ((k + cntTo fObject xs (j + 1) : Nat) : Int)) := by
          show _ = _
          have h1 := HQ.out
          have h2 := HCS.out
          rw [cntTo_succ hjl, h2]
          omega
        go_wp2_with fail
        exact ⟨⟨j + 1, by omega, by go_num, by first | (rw [← HCN.out]; done) | (rw [← HCN.out]; rfl) | (rw [← HCN.out]; congr 1), by rw [← HFIN.out]; first | exact HP2.out | simpa [setsD] using HP2.out, HC102.out⟩, by simp [intOf]; omega⟩
      · have hjn : j = n := by omega
        subst hjn
        go_wp2_with fail
        go_ret
        exact ⟨by rw [mark_arr, ← markTo_all HN.out]; exact H0.out, HC0.out, by rw [cnt_arr, ← cntTo_all HN.out]; rfl⟩

end Go.Proofs.YtnaeglfochnikaaGreat

namespace Go.Proofs.YtnaeglfochnikaaGreat
set_option linter.unusedVariables false
set_option linter.unusedSimpArgs false
open Go.ChangeShapes Go.WideShapes Go.Deep Go.RowKit

section
variable {H : Type} {enc : TypeId × Value → H} {P : Program} {w : World} {base : Nat} {spare : Nat → Bool} {held : Bool}
theorem open_slice_fields {t e : TypeId} {fs : Array Field} {fuel : Nat} {cs : List Value} {x : DataW H × List MemPlace} (ht : P.underlying t = some (.slice e)) (he : P.underlying e = some (.struct fs))
    (hone : oneCellFields P fs = true) (hC : P.cellsOf e = fs.size) (h : DataW.trod enc P w base spare held fuel t cs = some x) :
    (cs = [.slice none 0 0] ∧ x = (.nil, [])) ∨
    ∃ (a : Addr) (len cap m : Nat) (D : Nat → DataW H) (Pl : Nat → List MemPlace), cs = [.slice (some a) len cap] ∧ base ≤ a.block ∧ len ≤ cap ∧ cap ≤ maxLen ∧ m = (if spare a.block then cap else len) ∧
      x = (.slice ((List.range len).map D) ((List.range (m - len)).map fun j => D (len + j)), MemPlace.row a (m * fs.size) ++ (List.range m).flatMap Pl) ∧
      ∀ i, i < m → ∃ (ys : List (DataW H × List MemPlace)) (n : Nat), D i = .agg (ys.map (·.1)) ∧ Pl i = ys.flatMap (·.2) ∧ ys.length = fs.size ∧
        ∀ (j : Nat) (f : Field), fs[j]? = some f → ∃ (v : Value) (y : DataW H × List MemPlace), w.cell? (a.add (i * fs.size + j)) = some v ∧ ys[j]? = some y ∧ DataW.trod enc P w base spare held n f.type [v] = some y := by
  rcases open_slice ht h with h0 | ⟨a, len, cap, m, n, D, Pl, hcs, hb, hl, hm, hmm, hx, hi⟩
  · exact .inl h0
  · refine .inr ⟨a, len, cap, m, D, Pl, hcs, hb, hl, hm, hmm, by rw [hC] at hx; exact hx, fun i him => ?_⟩
    obtain ⟨cs', hc, ht'⟩ := hi i him
    rw [hC] at hc
    obtain ⟨ys, n', hn', hy, hlen, hyl, hf⟩ := DataW.trod_struct he ht'
    obtain ⟨_, hcl, hat⟩ := World.cells?_some hc
    simp only [Prod.mk.injEq] at hy
    refine ⟨ys, n', hy.1, hy.2, hyl, fun j f hj => ?_⟩
    obtain ⟨ho, hk⟩ := hone_of hone j f hj
    have hjl : j < fs.size := (Array.getElem?_eq_some_iff.1 hj).1
    have hcell := hat j hjl
    have hv : cs'[j]? = some (cs'[j]'(by omega)) := List.getElem?_eq_getElem (by omega)
    have h1 := hf j f hj
    rw [ho, hk] at h1
    have hone' : (cs'.drop j).take 1 = [cs'[j]'(by omega)] := by
      rw [List.drop_eq_getElem_cons (by omega)]
      rfl
    rw [hone'] at h1
    have hys : ys[j]? = some (ys[j]'(by omega)) := List.getElem?_eq_getElem (by omega)
    refine ⟨_, _, ?_, hys, h1.trans hys⟩
    rw [← Go.Deep.add_add, hcell, hv]
end

theorem addr_lit {w : World} {a : Addr} {j : Nat} {v : Value} (h : w.cell? (a.add j) = some v) : a.add j = ⟨a.block, a.off + j, none⟩ := by
  rcases a with ⟨b, o, _ | s⟩
  · unfold Addr.add; by_cases hj : j = 0 <;> simp [hj]
  · by_cases hj : j = 0
    · subst hj; simp [Addr.add, World.cell?] at h; split at h <;> simp at h
    · simp [Addr.add, hj]
/-- a row behind an address whose first cell is there is a row behind a plain address -/
theorem addr_plain {w : World} {a : Addr} {v : Value} (h : w.cell? (a.add 0) = some v) : a = ⟨a.block, a.off, none⟩ := by
  have := addr_lit h
  simpa [Addr.add] using this

theorem list_of {α : Type} {P : Nat → α → Prop} (n : Nat) (h : ∀ i, i < n → ∃ x, P i x) : ∃ xs : List α, xs.length = n ∧ ∀ i (hi : i < xs.length), P i xs[i] := by
  induction n with
  | zero => exact ⟨[], rfl, fun i hi => absurd hi (by simp)⟩
  | succ n ih =>
    obtain ⟨xs, hl, hp⟩ := ih fun i hi => h i (by omega)
    obtain ⟨x, hx⟩ := h n (by omega)
    refine ⟨xs ++ [x], by simp [hl], fun i hi => ?_⟩
    by_cases hin : i < xs.length
    · rw [List.getElem_append_left hin]; exact hp i hin
    · have : i = n := by simp at hi; omega
      subst this
      rw [List.getElem_append_right (by omega)]
      simpa [hl] using hx

/-- cells that are told element by element lie in a row -/
theorem fl_of_cells {α : Type} {f : α → List Value} {m : Nat} (hf : ∀ x, (f x).length = m) (hm : 0 < m) {w : World} {a : Addr} {xs : List α}
    (h : ∀ i (hi : i < xs.length) j u, (f xs[i])[j]? = some u → w.cell? (a.add (i * m + j)) = some u) : Fl f w 0 w.heap.size (some a) xs.length xs := by
  refine ⟨rfl, fun hne => ?_⟩
  have hl : 0 < xs.length := by
    rcases xs with _ | ⟨x, xs⟩
    · exact absurd rfl hne
    · simp
  have h00 : (f xs[0])[0]? = some ((f xs[0])[0]'(by rw [hf]; exact hm)) := List.getElem?_eq_getElem _
  have hc0 := h 0 hl 0 _ h00
  simp only [Nat.zero_mul, Nat.add_zero] at hc0
  have ha := addr_plain hc0
  have hb : a.block < w.heap.size := World.block_lt_of_cell? w (a.add 0) hc0
  refine ⟨a.block, a.off, by rw [← ha], Nat.zero_le _, hb, fun j u hu => ?_⟩
  have hj : j < (xs.flatMap f).length := (List.getElem?_eq_some_iff.1 hu).1
  rw [flat_len f m hf] at hj
  have hk : j / m < xs.length := Nat.div_lt_of_lt_mul (by rw [Nat.mul_comm]; exact hj)
  have e : j = j / m * m + j % m := by rw [Nat.mul_comm]; exact (Nat.div_add_mod j m).symm
  rw [e, flat_get f m hf xs (j / m) hk (j % m) (Nat.mod_lt _ hm)] at hu
  have := h (j / m) hk (j % m) u hu
  rw [← e] at this
  rw [← addr_lit this]; exact this

end Go.Proofs.YtnaeglfochnikaaGreat
