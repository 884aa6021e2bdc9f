/-
  The walk of markText: the text that stands for a number; and how a marked row is read. Condition: the number is positive and small.
-/
import Derived.Test.YtgpjcmplnigmcaaNestM
import Derived.Test.YtgpjcmplnigmcaaM3
import Derived.Deep.RegionHeld3
namespace Go.Proofs.Ytgpjcmplnigmcaa
set_option linter.unusedVariables false
set_option linter.unusedSimpArgs false
open Go.RowKit

theorem digT_zero (s : List UInt8) : digT 0 s = s := by rw [digT, if_pos rfl]
theorem digT_pos {k : Nat} (h : 0 < k) (s : List UInt8) : digT k s = digT (k / 10) (UInt8.ofNat (48 + k % 10) :: s) := by rw [digT, if_neg (by omega)]
theorem digT_len (k : Nat) : ∀ s, (digT k s).length ≤ k + s.length := by
  induction k using Nat.strongRecOn with
  | _ k ih =>
    intro s
    rcases Nat.eq_zero_or_pos k with h | h
    · subst h; rw [digT_zero]; omega
    · rw [digT_pos h]
      have := ih (k / 10) (by omega) (UInt8.ofNat (48 + k % 10) :: s)
      simp only [List.length_cons] at this
      omega
theorem markT_size (k : Nat) : (markT k).size ≤ k + 1 := by
  have := digT_len k []
  show ((109 :: digT k []).toArray).size ≤ k + 1
  simp at this ⊢; omega
theorem bytes_ext2 {a b : ByteArray} (h : a.data.toList = b.data.toList) : a = b := by
  rcases a with ⟨⟨a⟩⟩; rcases b with ⟨⟨b⟩⟩; simp at h; subst h; rfl
theorem str_one (k : Nat) : (strOfNums [48 + ((k : Int) % 10)]).data.toList = [UInt8.ofNat (48 + k % 10)] := by
  have e : (48 + ((k : Int) % 10)) = ((48 + k % 10 : Nat) : Int) := by omega
  rw [e]
  show [UInt8.ofNat ((48 + k % 10 : Nat) : Int).toNat] = _
  rw [Int.toNat_natCast]

set_option maxHeartbeats 800000 in
set_option maxRecDepth 100000 in
theorem markText_d (k : Nat) (ki : Int) (w : World) (hki : ki = (k : Int)) (h1 : 1 ≤ k) (hk : k ≤ 1099511627776) :
    Calls Try.prog 61 #[.int .i64 ki] w fun e w' => e = .returned (.string (markT k)) ∧ Below w.heap.size w w' := by
  subst hki
  go_enter Try.func61, Try.ntmps61
  go_wp2_with fail
  go_loopw [0, 3] (fun p t wr => ∃ (q : Nat) (s : ByteArray), q ≤ k ∧ p = .int .i64 q ∧ t = .string s ∧ s.size + q ≤ k ∧ Hid (digT q s.data.toList = digT k []) ∧ Below w.heap.size w wr) (fun p _ _ => (intOf p).toNat)
  case atStart => exact ⟨k, ⟨#[]⟩, Nat.le_refl _, rfl, rfl, by show 0 + k ≤ k; omega, rfl, Below.refl _ _⟩
  case round =>
    obtain ⟨q, s, hq, rfl, rfl, hsz, HD, hb⟩ := hrel
    have HB := Lib.hid hb
    have hwsz := hb.size
    clear hb
    by_cases hq0 : 0 < q
    · have hcv := conv_one wr (48 + ((q : Int) % 10))
      have hs1 : (strOfNums [48 + ((q : Int) % 10)]).size = 1 := by rw [strOfNums_size]; rfl
      have HS1 := Lib.hid hs1
      have hs2 : (strOfNums [48 + ((q : Int) % 10)]).size + s.size ≤ 9223372036854775807 := by omega
      have HN : Hid (digT (q / 10) (strOfNums [48 + ((q : Int) % 10)] ++ s).data.toList = digT k []) := by
        show _ = _
        rw [← HD.out, digT_pos hq0, ByteArray.data_append, Array.toList_append, str_one]; rfl
      clear hs1
      go_wp2_with fail
      go_roundw
      case rel => exact ⟨q / 10, _, by omega, by go_num, rfl, by rw [ByteArray.size_append, HS1.out]; omega, HN, HB.out.alloc hwsz _⟩
      case measure => simp [intOf]; omega
    · have hq1 : q = 0 := by omega
      subst hq1
      have HN : Hid ((⟨#[109]⟩ : ByteArray) ++ s = markT k) := by
        show _ = _
        refine bytes_ext2 ?_
        have h2 := HD.out
        rw [digT_zero] at h2
        rw [ByteArray.data_append, Array.toList_append, h2]
        rfl
      go_wp2_with fail
      go_ret
      exact ⟨by first | rfl | (rw [HN.out]; rfl), HB.out⟩

/-- one number or text of a row of the call's own -/
theorem own_put {w : World} {m n n' c g o p i : Nat} {es : List D} {F : List Nat} {d : D} (h : D.own w (.arr m n es) F (.slice (some ⟨g, o, none⟩) n' c)) (hF : F.Nodup) (hq : es[p + i]? = some d) (hs : (∃ x, d = .int x) ∨ ∃ s, d = .str s) (d' : D) (v' : Value) (hv : ∀ W, D.own W d' [] v') :
    (∃ u, w.cell? ⟨g, o + p + i, none⟩ = some u) ∧ w.frozen? ⟨g, o + p + i, none⟩ = false ∧ g ∈ F ∧ D.own (w.setCell ⟨g, o + p + i, none⟩ v') (.arr m n (es.set (p + i) d')) F (.slice (some ⟨g, o, none⟩) n' c) := by
  obtain ⟨v, Fq, h1, h2, h3, h4, h5, h6, h7, h8, h9⟩ := own_sub h hF hq
  rw [← Nat.add_assoc] at h1 h2
  refine ⟨⟨v, h1⟩, h2, h6, ?_⟩
  have := h9 d' v' (own_scalar h3 hs) hv
  rwa [← Nat.add_assoc] at this
/-- one row of a row of the call's own -/
theorem own_arr {w : World} {m n n' c g o p i m2 n2 : Nat} {es es2 : List D} {F : List Nat} (h : D.own w (.arr m n es) F (.slice (some ⟨g, o, none⟩) n' c)) (hF : F.Nodup) (hq : es[p + i]? = some (.arr m2 n2 es2)) :
    ∃ A2 c2 Fq, w.cell? ⟨g, o + p + i, none⟩ = some (.slice A2 n2 c2) ∧ D.own w (.arr m2 n2 es2) Fq (.slice A2 n2 c2) ∧ Fq.Nodup ∧ (∀ x ∈ Fq, x ∈ F) ∧ g ∈ F ∧ g ∉ Fq ∧
      (∀ (w' : World) (d' : D), Chg w w' Fq → (∀ x ∈ F, x < w.heap.size) → D.own w' d' Fq (.slice A2 n2 c2) → D.own w' (.arr m n (es.set (p + i) d')) F (.slice (some ⟨g, o, none⟩) n' c)) := by
  obtain ⟨v, Fq, h1, h2, h3, h4, h5, h6, h7, h8, h9⟩ := own_sub h hF hq
  rw [← Nat.add_assoc] at h1
  have h3' := h3
  unfold D.own at h3'
  obtain ⟨A2, c2, vs, F', rfl, _⟩ := h3'
  exact ⟨A2, c2, Fq, h1, h3, h4, h5, h6, h7, h8⟩

theorem bel_dr2 {W W' : World} (h : Below W.drew.heap.size W.drew W') : Below W.heap.size W W' := ⟨h.os, h.tape, h.output, h.size, h.block⟩
theorem mark_rd_inv {w : World} {lo hi m n k : Nat} {es : List D} {v : Value} (h : D.rd w lo hi (D.mark (.arr m n es) k) v) : ∃ A c, v = .slice A n c ∧ D.rd w lo hi (D.mark (.arr m n es) k) (.slice A n c) := by
  rw [mark_arr] at h ⊢
  obtain ⟨A, c, rfl, -, -, h2⟩ := h.arr_inv
  exact ⟨A, c, rfl, h2⟩
/-- what a function that marks leaves -/
def MarkR (d : D) (k : Nat) (F : List Nat) (v : Value) (w : World) (e : Ending) (w' : World) : Prop := D.own w' (D.mark d k) F v ∧ Chg w w' F ∧ e = .returned (.int .i64 ((k + D.cnt d : Nat) : Int))
/-- what a function that asks for marks answers -/
def HeldR (d : D) (k : Nat) (w : World) (e : Ending) (w' : World) : Prop := Below w.heap.size w w' ∧ e = .returned (.int .i64 ((k + D.cnt d : Nat) : Int))

/-- a row that is not empty, field by field -/
theorem rd_row {w : World} {lo hi m n n' c : Nat} {es : List D} {A : Option Addr} (h : D.rd w lo hi (.arr m n es) (.slice A n' c)) (hn : 0 < n) (hm : 0 < m) :
    ∃ b o, A = some ⟨b, o, none⟩ ∧ lo ≤ b ∧ b < hi ∧ ∀ (p i : Nat) (d : D), es[p + i]? = some d → ∃ u, w.cell? ⟨b, o + p + i, none⟩ = some u ∧ D.rd w lo hi d u := by
  unfold D.rd at h
  obtain ⟨A', c', vs, e, g2, g3, g4, g5, g6⟩ := h
  injection e with e1 e2 e3
  subst e1
  have hvl := D.rdL.length g6
  have hne : vs ≠ [] := by
    intro e
    subst e
    have h0 := Nat.mul_pos hn hm
    rw [← hvl] at g4
    simp at g4; omega
  obtain ⟨b, o, rfl, k1, k2, hc⟩ := g5 hne
  refine ⟨b, o, rfl, k1, k2, fun p i d hd => ?_⟩
  obtain ⟨u, hu, hr⟩ := D.rdL.get g6 hd
  refine ⟨u, ?_, hr⟩
  have := hc _ _ hu
  rwa [← Nat.add_assoc] at this
theorem markL_get {α : Type} {f : α → List D} {m : Nat} (hf : ∀ x, (f x).length = m) {xs : List α} {k j : Nat} (hj : j < xs.length) {i : Nat} (hi : i < m) : (D.markL (xs.flatMap f) k)[j * m + i]? = (D.markL (f xs[j]) (k + cntTo f xs j))[i]? := by
  have e : xs.flatMap f = (xs.take j).flatMap f ++ (f xs[j] ++ (xs.drop (j + 1)).flatMap f) := by
    have h1 : xs.flatMap f = (xs.take j).flatMap f ++ (xs.drop j).flatMap f := by rw [← List.flatMap_append, List.take_append_drop]
    rw [h1, List.drop_eq_getElem_cons hj, List.flatMap_cons]
  rw [e, markL_app, markL_app, List.getElem?_append_right (by rw [markTo_pre hf hj]; omega), markTo_pre hf hj, Nat.add_sub_cancel_left, List.getElem?_append_left (by rw [markL_len, hf]; exact hi)]
  rfl

def fInt (x : Int) : List D := [.int x]
theorem fInt_len (x : Int) : (fInt x).length = 1 := rfl
theorem intsD_flat (xs : List Int) : intsD xs = .arr 1 xs.length (xs.flatMap fInt) := by
  unfold intsD
  congr 1
  induction xs with
  | nil => rfl
  | cons x xs ih => rw [List.map_cons, List.flatMap_cons, ih]; rfl

end Go.Proofs.Ytgpjcmplnigmcaa
