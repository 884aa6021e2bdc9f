/-
  The walks of l91Text, l91Ops and DrawDeltaApply: a short text; at most three operations in new memory. Condition: the reader's place is small.
  The walk of markText: the text that stands for a number; and how a marked row is read. Condition: the number is positive and small.
  The walks of markIntS and heldIntS: numbers and texts are turned into marks; such marks are told. Condition: few elements, small marks.
  The walks of markUpdateS and heldUpdateS: numbers and texts are turned into marks; such marks are told. Condition: few elements, small marks.
-/
import Derived.Test.YtgbkjfhmbchiiaaM11
import Derived.Test.YtgbkjfhmbchiiaaM15
import Derived.Deep.DeepCutAuto
import Derived.Deep.CutBlock
import Derived.Laws.BytesString
import Derived.Deep.RegionHeld3
import Derived.Test.YtgbkjfhmbchiiaaM4
namespace Go.Proofs.Ytgbkjfhmbchiiaa
set_option linter.unusedVariables false
set_option linter.unusedSimpArgs false
open Go.RowKit

theorem conv_one (W : World) (x : Int) : (convert 22 9 (.slice (some ⟨W.heap.size, 0, none⟩) 1 1)).run Try.prog (W.alloc (.cells #[.int .u8 x] 5)) = .ok (.string (strOfNums [x])) (W.alloc (.cells #[.int .u8 x] 5)) :=
  run_convert_bytes_arg _ 22 5 Try.underlying22 Try.underlying5 _ _ 1 1 [x] rfl (fun i hi => by
    have : i = 0 := by omega
    subst this
    rw [cell_of_row _ W.heap.size _ _ _ _ (heap_alloc_new W _)]; rfl) _ Try.underlying9

def textSum (xs : List OpD) : Nat := (xs.map fun o => o.text.size).sum
theorem textSum_take_succ {xs : List OpD} {k : Nat} (hk : k < xs.length) : textSum (xs.take (k + 1)) = textSum (xs.take k) + xs[k].text.size := by
  unfold textSum
  rw [List.take_succ_eq_append_getElem hk, List.map_append, List.sum_append]; simp
theorem textSum_le {xs : List OpD} (h : ∀ o ∈ xs, o.text.size ≤ 1000) : textSum xs ≤ 1000 * xs.length := by
  unfold textSum
  induction xs with
  | nil => simp
  | cons x xs ih =>
    have h1 := h x (List.mem_cons_self ..)
    have h2 := ih fun o ho => h o (List.mem_cons_of_mem _ ho)
    simp only [List.map_cons, List.sum_cons, List.length_cons]; omega

theorem fl_drop {α : Type} {f : α → List Value} {m : Nat} (hf : ∀ x, (f x).length = m) (hm : 0 < m) {w : World} {lo hi : Nat} {A : Option Addr} {n k : Nat} {xs : List α} (h : Fl f w lo hi A n xs) (_ : k ≤ n) : Fl f w lo hi (A.map (·.add (k * m))) (n - k) (xs.drop k) := by
  refine ⟨by rw [List.length_drop, h.1], fun hne => ?_⟩
  have hkn : k < n := by
    rcases Nat.lt_or_ge k n with hlt | hge
    · exact hlt
    · rw [List.drop_eq_nil_of_le (by rw [h.1]; exact hge)] at hne; exact absurd rfl hne
  obtain ⟨b, o, hl, rfl, g1, g2, _⟩ := h.at_ hf hm hkn
  refine ⟨b, o + k * m, ?_, g1, g2, fun j u hu => ?_⟩
  · simp only [Option.map_some, Addr.add]
    by_cases h0 : k * m = 0
    · rw [if_pos h0, h0]; rfl
    · rw [if_neg h0]
  · have hjm : j < ((xs.drop k).flatMap f).length := (List.getElem?_eq_some_iff.1 hu).1
    rw [flat_len f m hf, List.length_drop] at hjm
    have hd : j / m < (xs.drop k).length := by rw [List.length_drop]; exact Nat.div_lt_of_lt_mul (by rw [Nat.mul_comm]; exact hjm)
    have e : j = j / m * m + j % m := by rw [Nat.mul_comm]; exact (Nat.div_add_mod j m).symm
    rw [e, flat_get f m hf _ (j / m) hd (j % m) (Nat.mod_lt _ hm)] at hu
    rw [List.length_drop] at hd
    obtain ⟨b', o', hl', hA, _, _, hc⟩ := h.at_ hf hm (k := k + j / m) (by rw [← h.1]; omega)
    simp only [Option.some.injEq, Addr.mk.injEq, and_true] at hA
    obtain ⟨rfl, rfl⟩ := hA
    rw [List.getElem_drop] at hu
    have := hc (j % m) u hu
    rw [show b = b from rfl]
    have e3 : o + k * m + j = o + (k + j / m) * m + j % m := by rw [Nat.add_mul]; omega
    rw [e3]; exact this

theorem fl_drop0 {α : Type} {f : α → List Value} {w : World} {lo hi : Nat} {A A' : Option Addr} {n k : Nat} {xs : List α} (h : Fl f w lo hi A n xs) (hk : n ≤ k) : Fl f w lo hi A' (n - k) (xs.drop k) := by
  rw [List.drop_eq_nil_of_le (by rw [h.1]; exact hk), show n - k = 0 from by omega]; exact Fl.nil _ _ _ _ _

/-- what is left behind the draw of a base and operations -/
def DrawnD (w w' : World) (e : Ending) : Prop :=
  ∃ (s : ByteArray) (A : Option Addr) (n c : Nat) (xs : List OpD), e = .returned (.tuple #[.string s, .slice A n c]) ∧ s.size ≤ 9 ∧ n ≤ 3 ∧ n ≤ c ∧ c ≤ maxLen ∧ Fl co w' w.heap.size w'.heap.size A n xs ∧ (∀ o ∈ xs, o.text.size ≤ 9) ∧ Below w.heap.size w w'

end Go.Proofs.Ytgbkjfhmbchiiaa

namespace Go.Proofs.Ytgbkjfhmbchiiaa
set_option linter.unusedVariables false
set_option linter.unusedSimpArgs false
open Go.RowKit

theorem digT_zero (s : List UInt8) : digT 0 s = s := by rw [digT, if_pos rfl]
theorem digT_pos {k : Nat} (h : 0 < k) (s : List UInt8) : digT k s = digT (k / 10) (UInt8.ofNat (48 + k % 10) :: s) := by rw [digT, if_neg (by omega)]
theorem digT_len (k : Nat) : ∀ s, (digT k s).length ≤ k + s.length := by
  induction k using Nat.strongRecOn with
  | _ k ih =>
    intro s
    rcases Nat.eq_zero_or_pos k with h | h
    · subst h; rw [digT_zero]; omega
    · rw [digT_pos h]
      have := ih (k / 10) (by omega) (UInt8.ofNat (48 + k % 10) :: s)
      simp only [List.length_cons] at this
      omega
theorem markT_size (k : Nat) : (markT k).size ≤ k + 1 := by
  have := digT_len k []
  show ((109 :: digT k []).toArray).size ≤ k + 1
  simp at this ⊢; omega
theorem bytes_ext2 {a b : ByteArray} (h : a.data.toList = b.data.toList) : a = b := by
  rcases a with ⟨⟨a⟩⟩; rcases b with ⟨⟨b⟩⟩; simp at h; subst h; rfl
theorem str_one (k : Nat) : (strOfNums [48 + ((k : Int) % 10)]).data.toList = [UInt8.ofNat (48 + k % 10)] := by
  have e : (48 + ((k : Int) % 10)) = ((48 + k % 10 : Nat) : Int) := by omega
  rw [e]
  show [UInt8.ofNat ((48 + k % 10 : Nat) : Int).toNat] = _
  rw [Int.toNat_natCast]

/-- one number or text of a row of the call's own -/
theorem own_put {w : World} {m n n' c g o p i : Nat} {es : List D} {F : List Nat} {d : D} (h : D.own w (.arr m n es) F (.slice (some ⟨g, o, none⟩) n' c)) (hF : F.Nodup) (hq : es[p + i]? = some d) (hs : (∃ x, d = .int x) ∨ ∃ s, d = .str s) (d' : D) (v' : Value) (hv : ∀ W, D.own W d' [] v') :
    (∃ u, w.cell? ⟨g, o + p + i, none⟩ = some u) ∧ w.frozen? ⟨g, o + p + i, none⟩ = false ∧ g ∈ F ∧ D.own (w.setCell ⟨g, o + p + i, none⟩ v') (.arr m n (es.set (p + i) d')) F (.slice (some ⟨g, o, none⟩) n' c) := by
  obtain ⟨v, Fq, h1, h2, h3, h4, h5, h6, h7, h8, h9⟩ := own_sub h hF hq
  rw [← Nat.add_assoc] at h1 h2
  refine ⟨⟨v, h1⟩, h2, h6, ?_⟩
  have := h9 d' v' (own_scalar h3 hs) hv
  rwa [← Nat.add_assoc] at this
/-- one row of a row of the call's own -/
theorem own_arr {w : World} {m n n' c g o p i m2 n2 : Nat} {es es2 : List D} {F : List Nat} (h : D.own w (.arr m n es) F (.slice (some ⟨g, o, none⟩) n' c)) (hF : F.Nodup) (hq : es[p + i]? = some (.arr m2 n2 es2)) :
    ∃ A2 c2 Fq, w.cell? ⟨g, o + p + i, none⟩ = some (.slice A2 n2 c2) ∧ D.own w (.arr m2 n2 es2) Fq (.slice A2 n2 c2) ∧ Fq.Nodup ∧ (∀ x ∈ Fq, x ∈ F) ∧ g ∈ F ∧ g ∉ Fq ∧
      (∀ (w' : World) (d' : D), Chg w w' Fq → (∀ x ∈ F, x < w.heap.size) → D.own w' d' Fq (.slice A2 n2 c2) → D.own w' (.arr m n (es.set (p + i) d')) F (.slice (some ⟨g, o, none⟩) n' c)) := by
  obtain ⟨v, Fq, h1, h2, h3, h4, h5, h6, h7, h8, h9⟩ := own_sub h hF hq
  rw [← Nat.add_assoc] at h1
  have h3' := h3
  unfold D.own at h3'
  obtain ⟨A2, c2, vs, F', rfl, _⟩ := h3'
  exact ⟨A2, c2, Fq, h1, h3, h4, h5, h6, h7, h8⟩

theorem bel_dr2 {W W' : World} (h : Below W.drew.heap.size W.drew W') : Below W.heap.size W W' := ⟨h.os, h.tape, h.output, h.size, h.block⟩
theorem mark_rd_inv {w : World} {lo hi m n k : Nat} {es : List D} {v : Value} (h : D.rd w lo hi (D.mark (.arr m n es) k) v) : ∃ A c, v = .slice A n c ∧ D.rd w lo hi (D.mark (.arr m n es) k) (.slice A n c) := by
  rw [mark_arr] at h ⊢
  obtain ⟨A, c, rfl, -, -, h2⟩ := h.arr_inv
  exact ⟨A, c, rfl, h2⟩
/-- what a function that marks leaves -/
def MarkR (d : D) (k : Nat) (F : List Nat) (v : Value) (w : World) (e : Ending) (w' : World) : Prop := D.own w' (D.mark d k) F v ∧ Chg w w' F ∧ e = .returned (.int .i64 ((k + D.cnt d : Nat) : Int))
/-- what a function that asks for marks answers -/
def HeldR (d : D) (k : Nat) (w : World) (e : Ending) (w' : World) : Prop := Below w.heap.size w w' ∧ e = .returned (.int .i64 ((k + D.cnt d : Nat) : Int))

/-- a row that is not empty, field by field -/
theorem rd_row {w : World} {lo hi m n n' c : Nat} {es : List D} {A : Option Addr} (h : D.rd w lo hi (.arr m n es) (.slice A n' c)) (hn : 0 < n) (hm : 0 < m) :
    ∃ b o, A = some ⟨b, o, none⟩ ∧ lo ≤ b ∧ b < hi ∧ ∀ (p i : Nat) (d : D), es[p + i]? = some d → ∃ u, w.cell? ⟨b, o + p + i, none⟩ = some u ∧ D.rd w lo hi d u := by
  unfold D.rd at h
  obtain ⟨A', c', vs, e, g2, g3, g4, g5, g6⟩ := h
  injection e with e1 e2 e3
  subst e1
  have hvl := D.rdL.length g6
  have hne : vs ≠ [] := by
    intro e
    subst e
    have h0 := Nat.mul_pos hn hm
    rw [← hvl] at g4
    simp at g4; omega
  obtain ⟨b, o, rfl, k1, k2, hc⟩ := g5 hne
  refine ⟨b, o, rfl, k1, k2, fun p i d hd => ?_⟩
  obtain ⟨u, hu, hr⟩ := D.rdL.get g6 hd
  refine ⟨u, ?_, hr⟩
  have := hc _ _ hu
  rwa [← Nat.add_assoc] at this
theorem markL_get {α : Type} {f : α → List D} {m : Nat} (hf : ∀ x, (f x).length = m) {xs : List α} {k j : Nat} (hj : j < xs.length) {i : Nat} (hi : i < m) : (D.markL (xs.flatMap f) k)[j * m + i]? = (D.markL (f xs[j]) (k + cntTo f xs j))[i]? := by
  have e : xs.flatMap f = (xs.take j).flatMap f ++ (f xs[j] ++ (xs.drop (j + 1)).flatMap f) := by
    have h1 : xs.flatMap f = (xs.take j).flatMap f ++ (xs.drop j).flatMap f := by rw [← List.flatMap_append, List.take_append_drop]
    rw [h1, List.drop_eq_getElem_cons hj, List.flatMap_cons]
  rw [e, markL_app, markL_app, List.getElem?_append_right (by rw [markTo_pre hf hj]; omega), markTo_pre hf hj, Nat.add_sub_cancel_left, List.getElem?_append_left (by rw [markL_len, hf]; exact hi)]
  rfl

def fInt (x : Int) : List D := [.int x]
theorem fInt_len (x : Int) : (fInt x).length = 1 := rfl
theorem intsD_flat (xs : List Int) : intsD xs = .arr 1 xs.length (xs.flatMap fInt) := by
  unfold intsD
  congr 1
  induction xs with
  | nil => rfl
  | cons x xs ih => rw [List.map_cons, List.flatMap_cons, ih]; rfl

end Go.Proofs.Ytgbkjfhmbchiiaa

namespace Go.Proofs.Ytgbkjfhmbchiiaa
set_option linter.unusedVariables false
set_option linter.unusedSimpArgs false
open Go.RowKit

set_option maxRecDepth 100000 in
set_option maxHeartbeats 3200000 in
theorem markIntS_d (xs : List Int) (A : Option Addr) (n c k : Nat) (ki : Int) (FF : List Nat) (w : World) (hki : ki = (k : Int)) (h1 : 1 ≤ k) (hk : k + D.cnt (intsD xs) ≤ 1099511627776) (hF : FF.Nodup) (hlt : ∀ x ∈ FF, x < w.heap.size) (h : D.own w (intsD xs) FF (.slice A n c)) :
    Calls Try.prog 24 #[.slice A n c, .int .i64 ki] w fun e w' => MarkR (intsD xs) k FF (.slice A n c) w e w' := by
  subst hki
  rw [intsD_flat] at h hk ⊢
  have hl := own_len h
  have hn : xs.length = n := hl.1.symm
  have hnc := hl.2.1
  have hc63 := hl.2.2.1
  clear hl
  rw [hn] at h hk hnc ⊢
  rw [cnt_arr] at hk
  rcases Nat.eq_zero_or_pos n with h0 | h0
  · subst h0
    have hx : xs = [] := List.eq_nil_of_length_eq_zero hn
    subst hx
    have HO := Lib.hid h
    clear h hn
    go_enter Try.func24, Try.ntmps24
    go_wp2_with fail
    refine wp_loop_rounds 1 ?_
    rw [rounds_succ]
    go_wp2_with fail
    go_ret
    refine ⟨?_, Chg.refl _ _, ?_⟩
    · rw [mark_arr, List.flatMap_nil, markL_nil]; exact HO.out
    · rw [cnt_arr, List.flatMap_nil, cntL_nil]; rfl
  · obtain ⟨g, o, rfl, hgF⟩ := own_row h h0 (by omega)
    have HO := Lib.hid h
    have HF := Lib.hid hF
    have HLT := Lib.hid hlt
    have HK := Lib.hid hk
    have HN := Lib.hid hn
    clear h hF hlt hk hn
    go_enter Try.func24, Try.ntmps24
    go_wp2_with fail
    go_loopw [1, 5] (fun l i wr => ∃ j : Nat, j ≤ n ∧ i = .int .i64 j ∧ l = .int .i64 ((k + cntTo fInt xs j : Nat) : Int) ∧ D.own wr (.arr 1 n (markTo fInt xs k j)) FF (.slice (some ⟨g, o, none⟩) n c) ∧ Chg w wr FF) (fun _ i _ => n - (intOf i).toNat)
    case atStart => exact ⟨0, Nat.zero_le _, rfl, by rw [cntTo_zero]; rfl, by rw [markTo_zero]; exact HO.out, Chg.refl _ _⟩
    case round =>
      obtain ⟨j, hj, rfl, rfl, hown, hch⟩ := hrel
      have H0 := Lib.hid hown
      have HC0 := Lib.hid hch
      have hws := hch.2.2.2.1
      have HL0 : Hid (∀ x ∈ FF, x < wr.heap.size) := fun x hx => Nat.lt_of_lt_of_le (HLT.out x hx) hws
      clear hown hch
      by_cases hlt : j < n
      · have hjl : j < xs.length := by rw [HN.out]; exact hlt
        obtain ⟨q, hq⟩ : ∃ q, k + cntTo fInt xs j = q := ⟨_, rfl⟩
        have hq00 : 1 ≤ q := by omega
        have hqk : q + D.cntL (fInt xs[j]) ≤ 1099511627776 := by
          have h2 := cntTo_le (f := fInt) (xs := xs) (j := j + 1) (by omega)
          rw [cntTo_succ hjl] at h2
          have h3 := HK.out
          omega
        have HQ := Lib.hid hq
        have hcs : D.cntL (fInt xs[j]) = 1 := by
          unfold fInt
          simp only [cntL_cons, cntL_nil, cnt_int, cnt_str]
          try omega
        have HCS := Lib.hid hcs
        rw [hcs] at hqk
        rw [hq]
        clear hq hcs
        obtain ⟨⟨u0, hg0⟩, hf0, -, hp0⟩ := own_put H0.out HF.out (p := j * 1) (i := 0) (markTo_get fInt_len hjl (by omega)) (.inl ⟨_, rfl⟩) (.int (((q : Nat) : Int))) (.int .i64 (((q : Nat) : Int))) (fun W => D.own.int W _)
        simp only [Nat.add_zero, Nat.mul_one] at hg0 hf0 hp0
        have HP0 := Lib.hid hp0
        clear hp0
        have HC100 := Lib.hid (HC0.out.set hgF (o + j) (.int .i64 (((q : Nat) : Int))))
        have HL100 : Hid (∀ x ∈ FF, x < (wr.setCell ⟨g, o + j, none⟩ (.int .i64 (((q : Nat) : Int)))).heap.size) := fun x hx => by simpa [World.setCell] using HL0.out x hx
        have hm : D.markL (fInt xs[j]) q = [.int (((q : Nat) : Int))] := by
          unfold fInt
          simp only [markL_cons, markL_nil, mark_int, mark_str, cnt_int, cnt_str]
          try rfl
        have HFIN : Hid (setsD (markTo fInt xs k j) (j * 1) [.int (((q : Nat) : Int))] = markTo fInt xs k (j + 1)) := by
          show _ = _
          rw [← markTo_step fInt_len hjl, HQ.out, hm]
        clear hm
        have HCN : Hid ((((q + 1 : Nat) : Int)) = ((k + cntTo fInt xs (j + 1) : Nat) : Int)) := by
          show _ = _
          have h1 := HQ.out
          have h2 := HCS.out
          rw [cntTo_succ hjl, h2]
          omega
        go_wp2_with fail
        exact ⟨⟨j + 1, by omega, by go_num, by first | (rw [← HCN.out]; done) | (rw [← HCN.out]; rfl) | (rw [← HCN.out]; congr 1), by rw [← HFIN.out]; first | exact HP0.out | simpa [setsD] using HP0.out, HC100.out⟩, by simp [intOf]; omega⟩
      · have hjn : j = n := by omega
        subst hjn
        go_wp2_with fail
        go_ret
        exact ⟨by rw [mark_arr, ← markTo_all HN.out]; exact H0.out, HC0.out, by rw [cnt_arr, ← cntTo_all HN.out]; rfl⟩

set_option maxRecDepth 100000 in
set_option maxHeartbeats 3200000 in
theorem heldIntS_d (xs : List Int) (A : Option Addr) (n c k : Nat) (ki : Int) (w : World) (lo hi : Nat) (hh : hi ≤ w.heap.size) (hki : ki = (k : Int)) (h1 : 1 ≤ k) (hk : k + D.cnt (intsD xs) ≤ 1099511627776) (h : D.rd w lo hi (D.mark (intsD xs) k) (.slice A n c)) :
    Calls Try.prog 25 #[.slice A n c, .int .i64 ki] w fun e w' => HeldR (intsD xs) k w e w' := by
  subst hki
  rw [intsD_flat] at h hk ⊢
  rw [mark_arr] at h
  rw [cnt_arr] at hk
  have hn : xs.length = n := h.len.1.symm
  have hnc := h.len.2.1
  have hc63 := h.len.2.2
  rw [hn] at h hnc ⊢
  have HI := Lib.hid h
  have HK := Lib.hid hk
  have HN := Lib.hid hn
  clear h hk hn
  go_enter Try.func25, Try.ntmps25
  go_wp2_with fail
  go_loopw [1, 5] (fun l i wr => ∃ j : Nat, j ≤ n ∧ i = .int .i64 j ∧ l = .int .i64 ((k + cntTo fInt xs j : Nat) : Int) ∧ Below w.heap.size w wr) (fun _ i _ => n - (intOf i).toNat)
  case atStart => exact ⟨0, Nat.zero_le _, rfl, by rw [cntTo_zero]; rfl, Below.refl _ _⟩
  case round =>
    obtain ⟨j, hj, rfl, rfl, hb⟩ := hrel
    have HB0 := Lib.hid hb
    have hws0 := hb.size
    clear hb
    by_cases hlt : j < n
    · have hjl : j < xs.length := by rw [HN.out]; exact hlt
      obtain ⟨b, o, rfl, _, hbh, hc⟩ := rd_row (HI.out.below HB0.out hh) (by omega) (by omega)
      obtain ⟨q, hq⟩ : ∃ q, k + cntTo fInt xs j = q := ⟨_, rfl⟩
      have hq00 : 1 ≤ q := by omega
      have hqk : q + D.cntL (fInt xs[j]) ≤ 1099511627776 := by
        have h2 := cntTo_le (f := fInt) (xs := xs) (j := j + 1) (by omega)
        rw [cntTo_succ hjl] at h2
        have h3 := HK.out
        omega
      have HQ := Lib.hid hq
      have hcs : D.cntL (fInt xs[j]) = 1 := by
        unfold fInt
        simp only [cntL_cons, cntL_nil, cnt_int, cnt_str]
        try omega
      have HCS := Lib.hid hcs
      rw [hcs] at hqk
      rw [hq]
      have hbw : b < wr.heap.size := by omega
      clear hq hcs
      have hm : D.markL (fInt xs[j]) q = [.int (((q : Nat) : Int))] := by
        unfold fInt
        simp only [markL_cons, markL_nil, mark_int, mark_str, cnt_int, cnt_str]
        try rfl
      obtain ⟨u0, hg0, hr0⟩ := hc (j * 1) 0 (.int (((q : Nat) : Int))) ((markL_get fInt_len hjl (by omega)).trans (by rw [HQ.out, hm]; rfl))
      simp only [Nat.add_zero, Nat.mul_one] at hg0
      obtain rfl := hr0.int_inv
      clear hm hc
      have HCN : Hid ((((q + 1 : Nat) : Int)) = ((k + cntTo fInt xs (j + 1) : Nat) : Int)) := by
        show _ = _
        have h1 := HQ.out
        have h2 := HCS.out
        rw [cntTo_succ hjl, h2]
        omega
      go_wp2_with fail
      exact ⟨⟨j + 1, by omega, by go_num, by first | (rw [← HCN.out]; done) | (rw [← HCN.out]; rfl) | (rw [← HCN.out]; congr 1), HB0.out⟩, by simp [intOf]; omega⟩
    · have hjn : j = n := by omega
      subst hjn
      go_wp2_with fail
      go_ret
      exact ⟨HB0.out, by rw [cnt_arr, ← cntTo_all HN.out]; rfl⟩

end Go.Proofs.Ytgbkjfhmbchiiaa

namespace Go.Proofs.Ytgbkjfhmbchiiaa
set_option linter.unusedVariables false
set_option linter.unusedSimpArgs false
open Go.RowKit

theorem dUpdates_flat (xs : List Upd) : dUpdates xs = .arr 3 xs.length (xs.flatMap fUpdate) := rfl

set_option maxRecDepth 100000 in
set_option maxHeartbeats 3200000 in
theorem markUpdateS_d (xs : List Upd) (A : Option Addr) (n c k : Nat) (ki : Int) (FF : List Nat) (w : World) (hki : ki = (k : Int)) (h1 : 1 ≤ k) (hk : k + D.cnt (dUpdates xs) ≤ 1099511627776) (hF : FF.Nodup) (hlt : ∀ x ∈ FF, x < w.heap.size) (h : D.own w (dUpdates xs) FF (.slice A n c)) :
    Calls Try.prog 80 #[.slice A n c, .int .i64 ki] w fun e w' => MarkR (dUpdates xs) k FF (.slice A n c) w e w' := by
  subst hki
  rw [dUpdates_flat] at h hk ⊢
  have hl := own_len h
  have hn : xs.length = n := hl.1.symm
  have hnc := hl.2.1
  have hc63 := hl.2.2.1
  clear hl
  rw [hn] at h hk hnc ⊢
  rw [cnt_arr] at hk
  rcases Nat.eq_zero_or_pos n with h0 | h0
  · subst h0
    have hx : xs = [] := List.eq_nil_of_length_eq_zero hn
    subst hx
    have HO := Lib.hid h
    clear h hn
    go_enter Try.func80, Try.ntmps80
    go_wp2_with fail
    refine wp_loop_rounds 1 ?_
    rw [rounds_succ]
    go_wp2_with fail
    go_ret
    refine ⟨?_, Chg.refl _ _, ?_⟩
    · rw [mark_arr, List.flatMap_nil, markL_nil]; exact HO.out
    · rw [cnt_arr, List.flatMap_nil, cntL_nil]; rfl
  · obtain ⟨g, o, rfl, hgF⟩ := own_row h h0 (by omega)
    have HO := Lib.hid h
    have HF := Lib.hid hF
    have HLT := Lib.hid hlt
    have HK := Lib.hid hk
    have HN := Lib.hid hn
    clear h hF hlt hk hn
    go_enter Try.func80, Try.ntmps80
    go_wp2_with fail
    go_loopw [1, 5] (fun l i wr => ∃ j : Nat, j ≤ n ∧ i = .int .i64 j ∧ l = .int .i64 ((k + cntTo fUpdate xs j : Nat) : Int) ∧ D.own wr (.arr 3 n (markTo fUpdate xs k j)) FF (.slice (some ⟨g, o, none⟩) n c) ∧ Chg w wr FF) (fun _ i _ => n - (intOf i).toNat)
    case atStart => exact ⟨0, Nat.zero_le _, rfl, by rw [cntTo_zero]; rfl, by rw [markTo_zero]; exact HO.out, Chg.refl _ _⟩
    case round =>
      obtain ⟨j, hj, rfl, rfl, hown, hch⟩ := hrel
      have H0 := Lib.hid hown
      have HC0 := Lib.hid hch
      have hws := hch.2.2.2.1
      have HL0 : Hid (∀ x ∈ FF, x < wr.heap.size) := fun x hx => Nat.lt_of_lt_of_le (HLT.out x hx) hws
      clear hown hch
      by_cases hlt : j < n
      · have hjl : j < xs.length := by rw [HN.out]; exact hlt
        obtain ⟨q, hq⟩ : ∃ q, k + cntTo fUpdate xs j = q := ⟨_, rfl⟩
        have hq00 : 1 ≤ q := by omega
        have hqk : q + D.cntL (fUpdate xs[j]) ≤ 1099511627776 := by
          have h2 := cntTo_le (f := fUpdate) (xs := xs) (j := j + 1) (by omega)
          rw [cntTo_succ hjl] at h2
          have h3 := HK.out
          omega
        have HQ := Lib.hid hq
        have hcs : D.cntL (fUpdate xs[j]) = 1 + 1 + 1 := by
          unfold fUpdate
          simp only [cntL_cons, cntL_nil, cnt_int, cnt_str]
          try omega
        have HCS := Lib.hid hcs
        rw [hcs] at hqk
        rw [hq]
        clear hq hcs
        obtain ⟨⟨u0, hg0⟩, hf0, -, hp0⟩ := own_put H0.out HF.out (p := j * 3) (i := 0) (markTo_get fUpdate_len hjl (by omega)) (.inl ⟨_, rfl⟩) (.int (((q : Nat) : Int))) (.int .i64 (((q : Nat) : Int))) (fun W => D.own.int W _)
        simp only [Nat.add_zero, Nat.mul_one] at hg0 hf0 hp0
        have HP0 := Lib.hid hp0
        clear hp0
        have HC100 := Lib.hid (HC0.out.set hgF (o + j * 3) (.int .i64 (((q : Nat) : Int))))
        have HL100 : Hid (∀ x ∈ FF, x < (wr.setCell ⟨g, o + j * 3, none⟩ (.int .i64 (((q : Nat) : Int)))).heap.size) := fun x hx => by simpa [World.setCell] using HL0.out x hx
        obtain ⟨⟨u1, hg1⟩, hf1, -, hp1⟩ := own_put HP0.out HF.out (p := j * 3) (i := 1) ((List.getElem?_set_ne (by omega)).trans (markTo_get fUpdate_len hjl (by omega))) (.inl ⟨_, rfl⟩) (.int (((q : Nat) : Int) + 1)) (.int .i64 (((q : Nat) : Int) + 1)) (fun W => D.own.int W _)
        have HP1 := Lib.hid hp1
        clear hp1
        have HC101 := Lib.hid (HC100.out.set hgF (o + j * 3 + 1) (.int .i64 (((q : Nat) : Int) + 1)))
        have HL101 : Hid (∀ x ∈ FF, x < ((wr.setCell ⟨g, o + j * 3, none⟩ (.int .i64 (((q : Nat) : Int)))).setCell ⟨g, o + j * 3 + 1, none⟩ (.int .i64 (((q : Nat) : Int) + 1))).heap.size) := fun x hx => by simpa [World.setCell] using HL100.out x hx
        obtain ⟨⟨u2, hg2⟩, hf2, -, hp2⟩ := own_put HP1.out HF.out (p := j * 3) (i := 2) ((List.getElem?_set_ne (by omega)).trans ((List.getElem?_set_ne (by omega)).trans (markTo_get fUpdate_len hjl (by omega)))) (.inl ⟨_, rfl⟩) (.int (((q : Nat) : Int) + 1 + 1)) (.int .i64 (((q : Nat) : Int) + 1 + 1)) (fun W => D.own.int W _)
        have HP2 := Lib.hid hp2
        clear hp2
        have HC102 := Lib.hid (HC101.out.set hgF (o + j * 3 + 2) (.int .i64 (((q : Nat) : Int) + 1 + 1)))
        have HL102 : Hid (∀ x ∈ FF, x < (((wr.setCell ⟨g, o + j * 3, none⟩ (.int .i64 (((q : Nat) : Int)))).setCell ⟨g, o + j * 3 + 1, none⟩ (.int .i64 (((q : Nat) : Int) + 1))).setCell ⟨g, o + j * 3 + 2, none⟩ (.int .i64 (((q : Nat) : Int) + 1 + 1))).heap.size) := fun x hx => by simpa [World.setCell] using HL101.out x hx
        have hm : D.markL (fUpdate xs[j]) q = [.int (((q : Nat) : Int)), .int (((q : Nat) : Int) + 1), .int (((q : Nat) : Int) + 1 + 1)] := by
          unfold fUpdate
          simp only [markL_cons, markL_nil, mark_int, mark_str, cnt_int, cnt_str]
          try rfl
        have HFIN : Hid (setsD (markTo fUpdate xs k j) (j * 3) [.int (((q : Nat) : Int)), .int (((q : Nat) : Int) + 1), .int (((q : Nat) : Int) + 1 + 1)] = markTo fUpdate xs k (j + 1)) := by
          show _ = _
          rw [← markTo_step fUpdate_len hjl, HQ.out, hm]
        clear hm
        have HCN : Hid ((((q + 3 : Nat) : Int)) = ((k + cntTo fUpdate xs (j + 1) : Nat) : Int)) := by
          show _ = _
          have h1 := HQ.out
          have h2 := HCS.out
          rw [cntTo_succ hjl, h2]
          omega
        go_wp2_with fail
        exact ⟨⟨j + 1, by omega, by go_num, by first | (rw [← HCN.out]; done) | (rw [← HCN.out]; rfl) | (rw [← HCN.out]; congr 1), by rw [← HFIN.out]; first | exact HP2.out | simpa [setsD] using HP2.out, HC102.out⟩, by simp [intOf]; omega⟩
      · have hjn : j = n := by omega
        subst hjn
        go_wp2_with fail
        go_ret
        exact ⟨by rw [mark_arr, ← markTo_all HN.out]; exact H0.out, HC0.out, by rw [cnt_arr, ← cntTo_all HN.out]; rfl⟩

end Go.Proofs.Ytgbkjfhmbchiiaa
