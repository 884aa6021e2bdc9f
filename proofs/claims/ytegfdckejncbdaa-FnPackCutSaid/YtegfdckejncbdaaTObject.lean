/-
  The datum of Object, and the walks of the laws' functions that count, copy and compare it (szObject, toObject, eqObject and those over slices). Condition: lengths fit an int64.
-/
import Derived.Test.YtegfdckejncbdaaNestA
import Derived.Test.YtegfdckejncbdaaPackP
import Derived.Test.YtegfdckejncbdaaIntD
import Derived.StillTailTactics
namespace Go.Proofs.Ytegfdckejncbdaa
set_option linter.unusedVariables false
set_option linter.unusedSimpArgs false
open Go.RowKit

/-- the fields of a value of type Object -/
def fObject (x : ObjD) : List D := [.int x.kind, intsD x.links, .str x.text]
theorem fObject_len (x : ObjD) : (fObject x).length = 3 := rfl
/-- a slice of them -/
def dObjects (xs : List ObjD) : D := .arr 3 xs.length (xs.flatMap fObject)
theorem szL_fObject (x : ObjD) : D.szL (fObject x) = D.sz (intsD x.links) + x.text.size := by
  unfold fObject
  simp only [szL_cons, szL_nil, sz_int, sz_str]
  omega

theorem rd_Object {w : World} {lo hi n k c : Nat} {A : Option Addr} {xs : List ObjD} (h : D.rd w lo hi (dObjects xs) (.slice A n c)) (hk : k < n) :
    ∃ (b o : Nat) (hl : k < xs.length) (A1 : Option Addr) (n1 c1 : Nat), A = some ⟨b, o, none⟩ ∧ lo ≤ b ∧ b < hi ∧ w.cell? ⟨b, o + k * 3, none⟩ = some (.int .i64 xs[k].kind) ∧ w.cell? ⟨b, o + k * 3 + 1, none⟩ = some (.slice A1 n1 c1) ∧ w.cell? ⟨b, o + k * 3 + 2, none⟩ = some (.string xs[k].text) ∧ (n1 ≤ c1 ∧ c1 ≤ 9223372036854775807 ∧ D.rd w lo hi (intsD xs[k].links) (.slice A1 n1 c1)) ∧ xs[k].text.size ≤ 9223372036854775807 := by
  have hn := h.len.1
  obtain ⟨b, o, hl, rfl, g1, g2, hc⟩ := h.at_ fObject_len (by omega) (k := k) (by omega)
  obtain ⟨u0, hu0, hr0⟩ := hc 0 _ rfl
  obtain rfl := hr0.int_inv
  obtain ⟨u1, hu1, hr1⟩ := hc 1 _ rfl
  obtain ⟨A1, c1, rfl, hn1, hm1, hd1⟩ := D.rd.arr_inv hr1
  obtain ⟨u2, hu2, hr2⟩ := hc 2 _ rfl
  obtain ⟨rfl, ht2⟩ := hr2.str_inv
  exact ⟨b, o, hl, A1, _, c1, rfl, g1, g2, hu0, hu1, hu2, ⟨hn1, hm1, hd1⟩, ht2⟩

theorem sz_Object_get {xs : List ObjD} {x : ObjD} (hx : x ∈ xs) : D.szL (fObject x) ≤ D.sz (dObjects xs) := by
  unfold dObjects
  rw [sz_arr]
  have := szL_get fObject xs hx
  omega

set_option maxRecDepth 100000 in
set_option maxHeartbeats 1600000 in
theorem eqObject_d (kind : Int) (links : List Int) (text : ByteArray) (A1 : Option Addr) (n1 c1 : Nat) (B1 : Option Addr) (bn1 bc1 : Nat) (w : World) (lo hi lo' hi' : Nat) (hh : hi ≤ w.heap.size) (hh' : hi' ≤ w.heap.size) (hr1 : D.rd w lo hi (intsD links) (.slice A1 n1 c1)) (hq1 : D.rd w lo' hi' (intsD links) (.slice B1 bn1 bc1)) :
    Calls Try.prog 41 #[.agg #[.int .i64 kind, .slice A1 n1 c1, .string text], .agg #[.int .i64 kind, .slice B1 bn1 bc1, .string text]] w fun e w' => e = .returned (.bool true) ∧ Below w.heap.size w w' := by

  have HR1 := Lib.hid hr1
  have HQ1 := Lib.hid hq1
  clear hr1 hq1
  have he0 : (!(kind == kind)) = false := by simp
  have he2 : (!(text.toList == text.toList)) = false := by simp
  have HB0 : Hid (Below w.heap.size w ((w.alloc (.cells #[.int .i64 kind, .slice A1 n1 c1, .string text] 39)).alloc (.cells #[.int .i64 kind, .slice B1 bn1 bc1, .string text] 39))) := ((Below.refl _ _).alloc (Nat.le_refl _) _).alloc (by simp) _
  go_enter Try.func41, Try.ntmps41
  go_wp2_with fail
  refine (eqIntS_d links A1 B1 n1 bn1 c1 bc1 _ lo hi lo' hi' (HR1.out.below HB0.out hh) (HQ1.out.below HB0.out hh')).mono ?_
  rintro e w1 ⟨rfl, hw1⟩
  have HB1 := Lib.hid (bel_tr HB0.out (Nat.le_refl _) hw1)
  obtain ⟨hcc1, hcf1⟩ := bcell hw1
  have hz1 : w.heap.size + 1 < w1.heap.size := by have h1 := hw1.size; simp at h1; omega
  have hz1b : w.heap.size < w1.heap.size := by omega
  clear hw1
  go_wp2_with fail
  go_ret
  exact ⟨rfl, HB1.out⟩

set_option maxRecDepth 100000 in
set_option maxHeartbeats 1600000 in
theorem eqObjectS_d (xs : List ObjD) (A A' : Option Addr) (n n' c c' : Nat) (w : World) (lo hi lo' hi' : Nat) (hh : hi ≤ w.heap.size) (hh' : hi' ≤ w.heap.size) (h : D.rd w lo hi (dObjects xs) (.slice A n c)) (h' : D.rd w lo' hi' (dObjects xs) (.slice A' n' c')) :
    Calls Try.prog 19 #[.slice A n c, .slice A' n' c'] w fun e w' => e = .returned (.bool true) ∧ Below w.heap.size w w' := by
  have h1 := h.len
  have h2 := h'.len
  obtain rfl : n' = n := h2.1.trans h1.1.symm
  have hn63 : n' ≤ 9223372036854775807 := by omega
  have HI := Lib.hid h
  have HJ := Lib.hid h'
  clear h h' h1 h2
  go_enter Try.func19, Try.ntmps19
  go_wp2_with fail
  go_loopw [5] (fun i wr => ∃ k : Nat, k ≤ n' ∧ i = .int .i64 k ∧ Below w.heap.size w wr) (fun i _ => n' - (intOf i).toNat)
  case atStart => exact ⟨0, Nat.zero_le _, rfl, Below.refl _ _⟩
  case round =>
    obtain ⟨k, hk, rfl, hb⟩ := hrel
    have HB := Lib.hid hb
    have hwsz := hb.size
    clear hb
    by_cases hlt : k < n'
    · obtain ⟨b, o, hl, A1, n1, c1, rfl, _, hbh, hc0, hc1, hc2, ⟨hn1, hm1, hr1⟩, ht2⟩ := rd_Object (HI.out.below HB.out hh) hlt
      obtain ⟨b', o', hl', B1, bn1, bc1, rfl, _, hbh', hd0, hd1, hd2, ⟨-, -, hq1⟩, -⟩ := rd_Object (HJ.out.below HB.out hh') hlt
      have HR1 := Lib.hid hr1.drew
      have HQ1 := Lib.hid hq1.drew
      clear hr1 hq1
      go_wp2_with fail
      go_still_tail 8, (by kernel_rfl)
      change wpList _ _ _ _ _ wr.drew
      go_wp2_with fail
      refine (eqObject_d xs[k].kind xs[k].links xs[k].text A1 n1 c1 B1 bn1 bc1 wr.drew lo hi lo' hi' (Nat.le_trans hh HB.out.size) (Nat.le_trans hh' HB.out.size) HR1.out HQ1.out).mono ?_
      rintro e w2 ⟨rfl, hb2⟩
      have HB2 : Hid (Below w.heap.size w w2) := HB.out.drew.trans (hb2.mono hwsz)
      clear hb2
      go_wp2_with fail
      go_roundw
      case rel => exact ⟨k + 1, by omega, by go_num, HB2.out⟩
      case measure => simp [intOf]; omega
    · have hkn : k = n' := by omega
      subst hkn
      go_wp2_with fail
      go_ret
      exact ⟨rfl, HB.out⟩

end Go.Proofs.Ytegfdckejncbdaa
