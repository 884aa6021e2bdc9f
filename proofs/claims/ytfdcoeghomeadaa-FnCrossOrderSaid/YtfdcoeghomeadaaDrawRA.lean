/-
  The walk of DrawRefsApply: a short row of values and a short row of updates in new memory. No condition.
-/
import Derived.Test.YtfdcoeghomeadaaDrawUpds
namespace Go.Proofs.Ytfdcoeghomeadaa
open Go.RowKit

theorem RowS.fl {α : Type} {f : α → List Value} {t : TypeId} {m : Nat} {w wr : World} {g k K : Nat} {v : Value} (h : RowS f t m w wr g k K v) :
    ∃ (A : Option Addr) (c : Nat) (vs : List α), v = .slice A k c ∧ k ≤ c ∧ c ≤ maxLen ∧ Fl f wr w.heap.size wr.heap.size A k vs := by
  obtain ⟨vs, h1, h3, h4⟩ := h
  obtain ⟨A, c, rfl, hc, hm, hr⟩ := Rd.of_own h3
  exact ⟨A, c, vs, rfl, hc, hm, h1, hr.more (Nat.le_refl _) (Nat.le_refl _)⟩

theorem below_draw {C : Nat} {w wr w' : World} {g K : Nat} (hb : Below C w wr) (hd : DrawT wr w' g K) (hC : C ≤ g) (hs : C ≤ wr.heap.size) : Below C w w' :=
  hb.grown hd.1 hs (fun q hq => by injection hq with hq; omega)

/-- what is left behind the draw of values and updates -/
def DrawnR (w w' : World) (e : Ending) : Prop :=
  ∃ (A : Option Addr) (n c : Nat) (xs : List Int) (B : Option Addr) (m d : Nat) (us : List Upd), e = .returned (.tuple #[.slice A n c, .slice B m d]) ∧ n ≤ 4 ∧ n ≤ c ∧ c ≤ maxLen ∧ m ≤ 4 ∧ m ≤ d ∧ d ≤ maxLen ∧
    Ints w' w.heap.size w'.heap.size A n xs ∧ Fl cu w' w.heap.size w'.heap.size B m us ∧ Below w.heap.size w w'

set_option maxHeartbeats 400000 in
theorem drawRefsApply_any (A : Option Addr) (n c : Nat) (zs : List Int) (w : World) (h : IsRow .u8 w A n c zs) :
    Calls Try.prog 20 #[.slice A n c] w fun e w' => DrawnR w w' e := by
  have HI := Lib.hid h
  clear h
  go_enter Try.func20, Try.ntmps20
  go_wp2_with fail
  refine (l6Open_any _ _ _ zs _ HI.out).mono ?_
  rintro e w1 ⟨hR1, hb1, hs1, rfl⟩
  have HR1 := Lib.hid hR1
  have HB1 := Lib.hid hb1
  have HS1 := Lib.hid hs1
  have hlt1 := hR1.lt
  clear hR1 hb1 hs1
  go_wp2_with fail
  refine (l92Refs_any w.heap.size 0 _ (by omega) HR1.out).mono ?_
  rintro e w2 ⟨k, v, hk, hS2, rfl⟩
  have HS2 := Lib.hid hS2
  obtain ⟨A2, c2, vs, rfl, hkc, hcm, hF⟩ := hS2.fl
  have HF := Lib.hid hF
  have hcm' : c2 ≤ 9223372036854775807 := hcm
  clear hS2 hF
  go_wp2_with fail
  refine (l92Updates_any w.heap.size 20 A2 k c2 vs _ _ _ (by omega) hk hlt1 (Nat.le_refl _) HF.out HS2.out.rdr).mono ?_
  rintro e w3 ⟨m, v, hm, hS3, rfl⟩
  have HS3 := Lib.hid hS3
  obtain ⟨B, d, us, rfl, hmd, hdm, hG⟩ := hS3.fl
  have HG := Lib.hid hG
  clear hS3 hG
  go_wp2_with fail
  go_ret2
  have hs12 : w1.heap.size ≤ w2.heap.size := HS2.out.drw.1.size
  have hs23 : w2.heap.size ≤ w3.heap.size := HS3.out.drw.1.size
  have hw1 : w.heap.size ≤ w1.heap.size := HB1.out.size
  have hb : Below w.heap.size w w3 := below_draw (below_draw HB1.out HS2.out.drw (Nat.le_refl _) hw1) HS3.out.drw (Nat.le_refl _) (Nat.le_trans hw1 hs12)
  exact ⟨A2, k, c2, vs, B, m, d, us, rfl, hk, hkc, hcm, hm, hmd, hdm, (HF.out.draw HS3.out.drw (Nat.le_refl _) hlt1).more hw1 hs23, HG.out.more (Nat.le_trans hw1 hs12) (Nat.le_refl _), hb⟩

end Go.Proofs.Ytfdcoeghomeadaa
