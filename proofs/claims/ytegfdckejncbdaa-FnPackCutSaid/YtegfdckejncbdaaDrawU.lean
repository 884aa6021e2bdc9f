/-
  The walks of DrawPackObjects and DrawPackSum: a drawn pack. No condition.
-/
import Derived.Test.YtegfdckejncbdaaDrawR
namespace Go.Proofs.Ytegfdckejncbdaa
set_option linter.unusedVariables false
set_option linter.unusedSimpArgs false
open Go.RowKit

/-- a pack that has been drawn, in new memory -/
def DrawnPk (w w' : World) (e : Ending) : Prop :=
  ∃ (ps : List PED) (A : Option Addr) (n c : Nat), D.rd w' w.heap.size w'.heap.size (dPackEntrys ps) (.slice A n c) ∧ n ≤ 17 ∧ D.sz (dPackEntrys ps) ≤ 1048576 ∧ Below w.heap.size w w' ∧ e = .returned (.slice A n c)

theorem drawPackObjects_any (A : Option Addr) (n c : Nat) (zs : List Int) (w : World) (h : IsRow .u8 w A n c zs) :
    Calls Try.prog 13 #[.slice A n c] w fun e w' => DrawnPk w w' e := by
  have HI := Lib.hid h
  clear h
  go_enter Try.func13, Try.ntmps13
  go_wp2_with fail
  refine (l6Open_any _ _ _ zs _ HI.out).mono ?_
  rintro e w1 ⟨hR1, hb1, hs1, rfl⟩
  have HR1 := Lib.hid hR1
  have HB1 := Lib.hid hb1
  have hz1 : w.heap.size ≤ w1.heap.size := by omega
  clear hR1 hb1 hs1
  go_wp2_with fail
  refine (l91Pack_any w.heap.size 0 _ (by omega) HR1.out).mono ?_
  rintro e w2 ⟨ps, B, m, d, hr, hm, hsz, hD, rfl⟩
  have HD := Lib.hid hD
  have HR := Lib.hid hr
  have HZ := Lib.hid hsz
  clear hD hr hsz
  go_wp2_with fail
  go_ret
  exact ⟨ps, B, m, d, HR.out.more hz1 (Nat.le_refl _), hm, HZ.out, HB1.out.grown HD.out.1 hz1 (fun q hq => by injection hq with hq; omega), rfl⟩

theorem drawPackSum_any (A : Option Addr) (n c : Nat) (zs : List Int) (w : World) (h : IsRow .u8 w A n c zs) :
    Calls Try.prog 23 #[.slice A n c] w fun e w' => DrawnPk w w' e := by
  have HI := Lib.hid h
  clear h
  go_enter Try.func23, Try.ntmps23
  go_wp2_with fail
  refine (l6Open_any _ _ _ zs _ HI.out).mono ?_
  rintro e w1 ⟨hR1, hb1, hs1, rfl⟩
  have HR1 := Lib.hid hR1
  have HB1 := Lib.hid hb1
  have hz1 : w.heap.size ≤ w1.heap.size := by omega
  clear hR1 hb1 hs1
  go_wp2_with fail
  refine (l91Pack_any w.heap.size 0 _ (by omega) HR1.out).mono ?_
  rintro e w2 ⟨ps, B, m, d, hr, hm, hsz, hD, rfl⟩
  have HD := Lib.hid hD
  have HR := Lib.hid hr
  have HZ := Lib.hid hsz
  clear hD hr hsz
  go_wp2_with fail
  go_ret
  exact ⟨ps, B, m, d, HR.out.more hz1 (Nat.le_refl _), hm, HZ.out, HB1.out.grown HD.out.1 hz1 (fun q hq => by injection hq with hq; omega), rfl⟩

end Go.Proofs.Ytegfdckejncbdaa
