/-
  For all refs and updates: the program's RefsApply answers as the reference's does, in new memory of its own, and the arguments read afterwards as before. No condition.
-/
import Derived.Test.YtfdcoeghomeadaaRefsB
import Derived.Test.YtfdcoeghomeadaaUpdM
namespace Go.Proofs.Ytfdcoeghomeadaa.fnExactRefsApply
open Go.ChangeShapes Go.WideShapes Go.ChangeAt Go.RowKit

theorem own_kept_lt {w w' : World} {base size n : Nat} {e : TypeId} {v : Value} {cs : List Value} {row : Option Nat} (h : w.ownsRow base e size v n cs) (hg : w.grownBy w' row) (hr : ∀ q, row = some q → q < base) : w'.ownsRow base e size v n cs := by
  refine h.kept hg ?_
  rcases hv : v.ownBlock with _ | k
  · exact .inl rfl
  · refine .inr (fun e => ?_)
    have h1 := (h.lt k hv).1
    have h2 := hr k e.symm
    omega

theorem applyL_short (xs : List Int) (us : List Upd) : (applyL xs us).length ≤ xs.length := by
  unfold applyL
  split
  · split
    · rw [setR_len]; exact Nat.le_refl _
    · exact Nat.le_refl _
  · exact Nat.zero_le _

/-- refs of the call's own that read as xs, in blocks from lo on and below hi -/
def Got (w : World) (lo hi : Nat) (v : Value) (n : Nat) (xs : List Int) : Prop :=
  xs.length = n ∧ ∃ t, w.ownsRow lo t 1 v n (xs.flatMap ci) ∧ ∀ q, v.ownBlock = some q → q < hi
theorem Got.mk_ {w : World} {lo : Nat} {t : TypeId} {v : Value} {xs : List Int} (h : w.ownsRow lo t 1 v xs.length (xs.flatMap ci)) : Got w lo w.heap.size v xs.length xs :=
  ⟨rfl, t, h, fun q hq => (h.lt q hq).2⟩
theorem Got.below {w w' : World} {lo hi n : Nat} {v : Value} {xs : List Int} (h : Got w lo hi v n xs) (hb : Below w.heap.size w w') : Got w' lo hi v n xs := by
  obtain ⟨h1, t, h2, h3⟩ := h
  exact ⟨h1, t, own_below h2 hb, h3⟩
theorem Got.drewN {w : World} {lo hi n : Nat} {v : Value} {xs : List Int} (h : Got w lo hi v n xs) (m : Nat) : Got (w.drewN m) lo hi v n xs := h
theorem Got.apart {w w' : World} {lo hi n lo' hi' : Nat} {v v' : Value} {xs : List Int} (h : Got w lo hi v n xs) (hg : w.grownBy w' v'.ownBlock) (h1 : ∀ q, v'.ownBlock = some q → lo' ≤ q ∧ q < hi') (h2 : hi' ≤ lo ∨ hi ≤ lo') : Got w' lo hi v n xs := by
  obtain ⟨a, t, b, c⟩ := h
  refine ⟨a, t, b.kept hg ?_, c⟩
  rcases hv : v.ownBlock with _ | k
  · exact .inl rfl
  · refine .inr (fun e => ?_)
    have g1 := (b.lt k hv).1
    have g2 := c k hv
    have g3 := h1 k e.symm
    omega
theorem Got.range {w : World} {lo hi n : Nat} {v : Value} {xs : List Int} (h : Got w lo hi v n xs) : ∀ q, v.ownBlock = some q → lo ≤ q ∧ q < hi := by
  obtain ⟨a, t, b, c⟩ := h
  exact fun q hq => ⟨(b.lt q hq).1, c q hq⟩
theorem Got.reads {w : World} {lo hi n : Nat} {v : Value} {xs : List Int} (h : Got w lo hi v n xs) : ∃ A c, v = .slice A n c ∧ Ints w lo w.heap.size A n xs := by
  obtain ⟨a, t, b, c⟩ := h
  obtain ⟨A, cc, rfl, _, _, hr⟩ := Rd.of_own b
  exact ⟨A, cc, rfl, a, hr⟩

set_option maxHeartbeats 3200000 in
theorem walk (a0 : Option Addr) (len0 cap0 : Nat) (z0 : List Int) (a1 : Option Addr) (len1 cap1 : Nat) (z1 : List Upd) (w : World) (w0 : IsRow .i64 w a0 len0 cap0 z0) (w1 : UpdIn w a1 len1 cap1 z1) :
    Calls Try.prog 7 #[.slice a0 len0 cap0, .slice a1 len1 cap1] w fun e w' => e = .returned (.bool true) ∧ Below w.heap.size w w' := by
  have hn0 := w0.bd
  have HI := Lib.hid w0.ints
  have HU := Lib.hid w1.1
  have HW := Lib.hid w1
  clear w0 w1
  by_cases hbig : 1048576 < len0
  · go_enter Try.func7, Try.ntmps7
    go_wp2
    go_ret
    exact ⟨rfl, Below.refl _ _⟩
  · have hs : len0 ≤ 1048576 := by omega
    clear hbig
    go_enter Try.func7, Try.ntmps7
    go_wp2_with fail
    refine (szUpdateS_any _ _ _ z1 _ _ HW.out (by omega) (by omega)).mono ?_
    rintro e w1 ⟨r, hr1, hr2, hr3, hb1, rfl⟩
    have HB1 := Lib.hid hb1
    have hs1 := hb1.size
    clear hb1
    by_cases hneg : r < 0
    · go_wp2_with fail
      go_ret
      exact ⟨rfl, HB1.out⟩
    · have hn := hr3 (by omega)
      have hn1 : len1 ≤ 1048576 := by omega
      clear hr3 hn
      generalize hxs : z0.take len0 = xs at *
      have hxl : xs.length = len0 := HI.out.1
      clear hxs
      have HXL := Lib.hid hxl
      clear hxl
      go_wp2_with fail
      refine (toIntS_any _ _ _ xs _ 0 _ (by omega) HB1.out.size (HI.out.below HB1.out (Nat.le_refl _))).mono ?_
      rintro e w2 ⟨v2, rfl, hown, hb⟩
      have HG2 : Hid (Got w2 w1.heap.size w2.heap.size v2 len0 xs) := ⟨HXL.out, _, hown, fun q hq => (hown.lt q hq).2⟩
      have HB2 : Hid (Below w.heap.size w w2) := HB1.out.trans (hb.mono HB1.out.size)
      have hs2 := hb.size
      have HS2 := Lib.hid hb
      clear hown hb
      go_wp2_with fail
      refine (toUpdateS_any _ _ _ z1 _ (by omega) ((HU.out.below HB2.out (Nat.le_refl _)).more (Nat.le_refl _) HB2.out.size)).mono ?_
      rintro e w3 ⟨v3, rfl, hown, hb⟩
      have HO3 := Lib.hid hown
      have HB3 : Hid (Below w.heap.size w w3) := HB2.out.trans (hb.mono HB2.out.size)
      have hs3 := hb.size
      have HS3 := Lib.hid hb
      clear hown hb
      obtain ⟨A2, c2, rfl, hI2⟩ := HG2.out.reads
      obtain ⟨A3, c3, rfl, -, -, hr3⟩ := Rd.of_own HO3.out
      go_wp2_with fail
      refine (specApply_any _ _ _ _ _ _ xs z1 _ _ _ _ _ hs3 (Nat.le_refl _) (by omega) (by omega) (hI2.below HS3.out (Nat.le_refl _)) ⟨HU.out.1, hr3⟩).mono ?_
      rintro e w4 ⟨t4, v4, hown, hb, rfl⟩
      have HG4 : Hid (Got w4 w3.heap.size w4.heap.size v4 (applyL xs z1).length (applyL xs z1)) := Got.mk_ hown
      have HB4 : Hid (Below w.heap.size w w4) := HB3.out.trans (hb.mono HB3.out.size)
      have hs4 := hb.size
      clear hown hb hI2 hr3 HG2 HO3 HS2 HS3
      go_wp2_with fail
      refine (toIntS_any _ _ _ xs _ 0 _ (by omega) HB4.out.size (HI.out.below HB4.out (Nat.le_refl _))).mono ?_
      rintro e w5 ⟨v5, rfl, hown, hb⟩
      have HG5 : Hid (Got w5 w4.heap.size w5.heap.size v5 len0 xs) := ⟨HXL.out, _, hown, fun q hq => (hown.lt q hq).2⟩
      have HB5 : Hid (Below w.heap.size w w5) := HB4.out.trans (hb.mono HB4.out.size)
      have hs5 := hb.size
      have HS5 := Lib.hid hb
      clear hown hb
      have HG45 := Lib.hid (HG4.out.below HS5.out)
      clear HG4
      go_wp2_with fail
      refine (toUpdateS_any _ _ _ z1 _ (by omega) ((HU.out.below HB5.out (Nat.le_refl _)).more (Nat.le_refl _) HB5.out.size)).mono ?_
      rintro e w6 ⟨v6, rfl, hown, hb⟩
      have HO6 := Lib.hid hown
      have HB6 : Hid (Below w.heap.size w w6) := HB5.out.trans (hb.mono HB5.out.size)
      have hs6 := hb.size
      have HS6 := Lib.hid hb
      clear hown hb
      have HG46 := Lib.hid (HG45.out.below HS6.out)
      have HG56 := Lib.hid (HG5.out.below HS6.out)
      clear HG45 HG5
      obtain ⟨A5, c5, rfl, hI5⟩ := HG56.out.reads
      have hU6 := HO6.out.lt
      obtain ⟨A6, c6, rfl, -, -, hr6⟩ := Rd.of_own HO6.out
      have HU6 := Lib.hid hU6
      clear hU6
      go_wp2_with fail
      refine (implApply_any _ _ _ _ _ _ xs z1 _ _ _ _ _ (Nat.le_refl _) (Nat.le_refl _) (by omega) (by omega) hI5 ⟨HU.out.1, hr6⟩).mono ?_
      rintro e w7 ⟨t7, v7, hown, hb, rfl⟩
      have HG7 : Hid (Got w7 w6.heap.size w7.heap.size v7 (applyL xs z1).length (applyL xs z1)) := Got.mk_ hown
      have HB7 : Hid (Below w.heap.size w w7) := HB6.out.trans (hb.mono HB6.out.size)
      have hs7 := hb.size
      have HG47 := Lib.hid (HG46.out.below hb)
      have HG57 := Lib.hid (HG56.out.below hb)
      have HO67 := Lib.hid (own_below HO6.out hb)
      clear hown hb hI5 hr6 HG46 HG56 HS5 HS6
      have hal : (applyL xs z1).length ≤ 1048576 := by
        have := applyL_short xs z1
        rw [HXL.out] at this; omega
      obtain ⟨A4, c4, rfl, hI4⟩ := HG47.out.reads
      obtain ⟨A7, c7, rfl, hI7⟩ := HG7.out.reads
      have hq2 : (!(applyB xs z1 == applyB xs z1)) = false := by simp
      go_wp2_with fail
      refine (eqIntS_any _ _ _ _ _ (applyL xs z1) _ _ _ _ _ (by omega) hI7 hI4).mono ?_
      rintro e w7' ⟨rfl, m7, rfl⟩
      clear hI4 hI7
      have HB7m : Hid (Below w.heap.size w (w7.drewN m7)) := below_drewN HB7.out m7
      go_wp2_with fail
      refine (toIntS_any _ _ _ xs _ 0 _ (by omega) HB7m.out.size (HI.out.below HB7m.out (Nat.le_refl _))).mono ?_
      rintro e w8 ⟨v8, rfl, hown, hb⟩
      have hs8 : w7.heap.size ≤ w8.heap.size := hb.size
      have HB8 : Hid (Below w.heap.size w w8) := HB7m.out.trans (hb.mono HB7m.out.size)
      have HG48 := Lib.hid ((HG47.out.drewN m7).below hb)
      have HG58 := Lib.hid ((HG57.out.drewN m7).below hb)
      have HG78 := Lib.hid ((HG7.out.drewN m7).below hb)
      have HO68 := Lib.hid (own_below (own_drew HO67.out m7) hb)
      obtain ⟨A8, c8, rfl, -, -, hr8⟩ := Rd.of_own hown
      obtain ⟨A5', c5', he5, hI5⟩ := HG58.out.reads
      injection he5 with he5a _ he5b
      subst he5a he5b
      clear hb hown HG47 HG57 HG7 HO67
      go_wp2_with fail
      refine (eqIntS_any _ _ _ _ _ xs _ _ _ _ _ (by omega) hI5 ⟨HXL.out, hr8⟩).mono ?_
      rintro e w8' ⟨rfl, m8, rfl⟩
      clear hI5 hr8
      have HB8m : Hid (Below w.heap.size w (w8.drewN m8)) := below_drewN HB8.out m8
      go_wp2_with fail
      refine (toUpdateS_any _ _ _ z1 _ (by omega) ((HU.out.below HB8m.out (Nat.le_refl _)).more (Nat.le_refl _) HB8m.out.size)).mono ?_
      rintro e w9 ⟨v9, rfl, hown, hb⟩
      have hs9 : w8.heap.size ≤ w9.heap.size := hb.size
      have HB9 : Hid (Below w.heap.size w w9) := HB8m.out.trans (hb.mono HB8m.out.size)
      have HG49 := Lib.hid ((HG48.out.drewN m8).below hb)
      have HG59 := Lib.hid ((HG58.out.drewN m8).below hb)
      have HG79 := Lib.hid ((HG78.out.drewN m8).below hb)
      have HO69 := Lib.hid (own_below (own_drew HO68.out m8) hb)
      obtain ⟨A9, c9, rfl, -, -, hr9⟩ := Rd.of_own hown
      obtain ⟨A6', c6', he6, -, -, hr6⟩ := Rd.of_own HO69.out
      injection he6 with he6a _ he6b
      subst he6a he6b
      clear hb hown HG48 HG58 HG78 HO68
      go_wp2_with fail
      refine (eqUpdateS_any _ _ _ _ _ z1 _ _ _ _ _ (by omega) (Nat.le_refl _) (Nat.le_refl _) ⟨HU.out.1, hr6⟩ ⟨HU.out.1, hr9⟩).mono ?_
      rintro e w10 ⟨rfl, hb⟩
      have hs10 := hb.size
      have HB10 : Hid (Below w.heap.size w w10) := HB9.out.trans (hb.mono HB9.out.size)
      have HG410 := Lib.hid (HG49.out.below hb)
      have HG510 := Lib.hid (HG59.out.below hb)
      have HG710 := Lib.hid (HG79.out.below hb)
      have HO610 := Lib.hid (own_below HO69.out hb)
      clear hb hr6 hr9 HG49 HG59 HG79 HO69
      obtain ⟨-, t5, ho5, -⟩ := HG510.out
      go_wp2_with fail
      refine (markIntS_any _ _ _ _ 1 xs _ (by omega) (by omega) HXL.out ho5).mono ?_
      rintro e w11 ⟨-, hg, rfl⟩
      have HB11 : Hid (Below w.heap.size w w11) := HB10.out.grown hg HB10.out.size (fun q hq => by have := HG510.out.range q hq; omega)
      have hs11 := hg.size
      have HG411 := Lib.hid (HG410.out.apart hg HG510.out.range (.inr (Nat.le_refl _)))
      have HG711 := Lib.hid (HG710.out.apart hg HG510.out.range (.inl hs6))
      have HO611 := Lib.hid (own_kept_lt HO610.out hg (fun q hq => (HG510.out.range q hq).2))
      clear hg ho5 HG410 HG710 HO610 HG510
      go_wp2_with fail
      refine (markUpdateS_any _ _ _ _ (1 + len0) _ _ (by omega) (by omega) HO611.out).mono ?_
      rintro e w12 ⟨hg, rfl⟩
      have HB12 : Hid (Below w.heap.size w w12) := HB11.out.grown hg HB11.out.size (fun q hq => by have := HU6.out q hq; omega)
      have hs12 := hg.size
      have HG412 := Lib.hid (HG411.out.apart (lo' := w5.heap.size) (hi' := w6.heap.size) hg (fun q hq => HU6.out q hq) (.inr hs5))
      have HG712 := Lib.hid (HG711.out.apart (lo' := w5.heap.size) (hi' := w6.heap.size) hg (fun q hq => HU6.out q hq) (.inl (Nat.le_refl _)))
      clear hg HG411 HG711 HO611
      obtain ⟨A4', c4', he4, hI4⟩ := HG412.out.reads
      injection he4 with he4a _ he4b
      subst he4a he4b
      obtain ⟨A7', c7', he7, hI7⟩ := HG712.out.reads
      injection he7 with he7a _ he7b
      subst he7a he7b
      go_wp2_with fail
      refine (eqIntS_any _ _ _ _ _ (applyL xs z1) _ _ _ _ _ (by omega) hI7 hI4).mono ?_
      rintro e w12' ⟨rfl, m12, rfl⟩
      clear hI4 hI7
      go_wp2_with fail
      have HB12m : Hid (Below w.heap.size w (w12.drewN m12)) := below_drewN HB12.out m12
      obtain ⟨-, t7', ho7, -⟩ := HG712.out
      refine (markIntS_any _ _ _ _ 1 (applyL xs z1) (w12.drewN m12) (by omega) (by omega) rfl ho7).mono ?_
      rintro e w13 ⟨hown, hg, rfl⟩
      have HB13 : Hid (Below w.heap.size w w13) := HB12m.out.grown hg HB12m.out.size (fun q hq => by have := HG712.out.range q hq; omega)
      have hs13 : w12.heap.size ≤ w13.heap.size := hg.size
      have HG413 := Lib.hid ((HG412.out.drewN m12).apart hg HG712.out.range (.inr (by omega)))
      have HG713 : Hid (Got w13 w6.heap.size w7.heap.size (.slice A7 (applyL xs z1).length c7) (applyL xs z1).length (marks 1 (applyL xs z1).length)) := ⟨marks_len _ _, _, hown, fun q hq => (HG712.out.range q hq).2⟩
      clear hg hown ho7 HG412 HG712
      obtain ⟨A7', c7', he7, hI7⟩ := HG713.out.reads
      injection he7 with he7a _ he7b
      subst he7a he7b
      go_wp2_with fail
      refine (heldIntS_any _ _ _ 1 _ _ _ (by omega) (by omega) hI7).mono ?_
      rintro e w13' ⟨rfl, rfl⟩
      clear hI7
      go_wp2_with fail
      refine (toIntS_any _ _ _ xs _ 0 _ (by omega) HB13.out.size (HI.out.below HB13.out (Nat.le_refl _))).mono ?_
      rintro e w14 ⟨v14, rfl, hown, hb⟩
      have HB14 : Hid (Below w.heap.size w w14) := HB13.out.trans (hb.mono HB13.out.size)
      have hs14 := hb.size
      have HG414 := Lib.hid (HG413.out.below hb)
      have HG714 := Lib.hid (HG713.out.below hb)
      obtain ⟨A14, c14, rfl, -, -, hr14⟩ := Rd.of_own hown
      have HI14 : Hid (Ints w14 w13.heap.size w14.heap.size A14 len0 xs) := ⟨HXL.out, hr14⟩
      clear hb hown hr14 HG413 HG713
      go_wp2_with fail
      refine (toUpdateS_any _ _ _ z1 _ (by omega) ((HU.out.below HB14.out (Nat.le_refl _)).more (Nat.le_refl _) HB14.out.size)).mono ?_
      rintro e w15 ⟨v15, rfl, hown, hb⟩
      have HB15 : Hid (Below w.heap.size w w15) := HB14.out.trans (hb.mono HB14.out.size)
      have hs15 := hb.size
      have HG415 := Lib.hid (HG414.out.below hb)
      have HG715 := Lib.hid (HG714.out.below hb)
      have HI15 := Lib.hid (HI14.out.below hb (Nat.le_refl _))
      obtain ⟨A15, c15, rfl, -, -, hr15⟩ := Rd.of_own hown
      have HU15 : Hid (Fl cu w15 w14.heap.size w15.heap.size A15 len1 z1) := ⟨HU.out.1, hr15⟩
      clear hb hown hr15 HG414 HG714 HI14
      go_wp2_with fail
      refine (implApply_any _ _ _ _ _ _ xs z1 _ _ _ _ _ hs15 (Nat.le_refl _) (by omega) (by omega) HI15.out HU15.out).mono ?_
      rintro e w16 ⟨t16, v16, hown, hb, rfl⟩
      have HB16 : Hid (Below w.heap.size w w16) := HB15.out.trans (hb.mono HB15.out.size)
      have HG416 := Lib.hid (HG415.out.below hb)
      have HG716 := Lib.hid (HG715.out.below hb)
      obtain ⟨A16, c16, rfl, -, -, hr16⟩ := Rd.of_own hown
      have HI16 : Hid (Ints w16 w15.heap.size w16.heap.size A16 (applyL xs z1).length (applyL xs z1)) := ⟨rfl, hr16⟩
      obtain ⟨A4', c4', he4, hI4⟩ := HG416.out.reads
      injection he4 with he4a _ he4b
      subst he4a he4b
      clear hb hown hr16 HG415 HG715 HI15 HU15
      go_wp2_with fail
      refine (eqIntS_any _ _ _ _ _ (applyL xs z1) _ _ _ _ _ (by omega) HI16.out hI4).mono ?_
      rintro e w16' ⟨rfl, m16, rfl⟩
      have HB16m : Hid (Below w.heap.size w (w16.drewN m16)) := below_drewN HB16.out m16
      obtain ⟨A7', c7', he7, hI7⟩ := HG716.out.reads
      injection he7 with he7a _ he7b
      subst he7a he7b
      clear hI4
      go_wp2_with fail
      refine (heldIntS_any _ _ _ 1 _ _ _ (by omega) (by omega) (hI7.drewN m16)).mono ?_
      rintro e w17 ⟨rfl, rfl⟩
      clear hI7
      go_wp2_with fail
      go_ret
      exact ⟨rfl, HB16m.out⟩

set_option linter.unusedVariables false
set_option maxRecDepth 100000 in
theorem lifted (os : Os) (started : os.Started) (H : Type) (enc : TypeId × Value → H) :
    ReturnsInHanded {} Try.checked os 7 .any (Rows.fnExactRefsApplySpec.pre6 enc Try.prog Try.f7 Rows.fnExactRefsApplyRow.domain false) (Rows.fnExactRefsApplySpec.post enc Try.prog Try.f7 false true false false) := by
  refine returnsInHanded_of_change (C := Try.checked) Try.own started (by kernel_rfl) Try.func7
    (ChangeSpec.witness6 (enc := enc) (C := Try.checked) false ⟨#[], #[.slice none 0 0, .slice none 0 0], []⟩ 8 (by kernel_rfl) (by kernel_rfl) (by kernel_rfl) (by kernel_rfl)) ?_
  intro W base args ds gs before hval0 hW hcnd _
  have hval : ∀ (j : Nat) t v, Try.f7.params[j]? = some t → args[j]? = some v → Value.okWide Try.prog W .any base t v := hval0
  have hW' := hW
  obtain ⟨p, q, hA0, hV, rfl, hfz, hnd⟩ := hW
  have hA : DataW.TrodAll enc Try.prog W 0 (fun _ => true) true Try.f7.params.toList args.toList ds p := hA0
  rw [Try.params7] at hA hval
  obtain ⟨v0, vs0, d0, ds0, p0, q0, hargs, rfl, rfl, h0, r0⟩ := trodAll_cons hA
  obtain ⟨v1, vs1, d1, ds1, p1, q1, rfl, rfl, rfl, h1, r1⟩ := trodAll_cons r0
  obtain ⟨rfl, rfl, rfl⟩ := trodAll_nil r1
  obtain rfl : args = #[v0, v1] := by cases args; simp_all
  obtain ⟨rfl, rfl⟩ := trodVars_none hV
  have k0 := h0
  have lt0 : ∀ x ∈ p0, x.block < W.heap.size := by obtain ⟨m, hm⟩ := k0; exact DataW.trod_lt m _ _ _ hm
  obtain ⟨a0, len0, cap0, rfl⟩ := okWide_slice Try.underlying23 (hval 0 23 v0 rfl rfl)
  obtain ⟨z0, w0⟩ := open_row (k := .i64) Try.underlying23 Try.underlying3 (by kernel_rfl) h0 (fun _ => rfl)
  have k1 := h1
  have lt1 : ∀ x ∈ p1, x.block < W.heap.size := by obtain ⟨m, hm⟩ := k1; exact DataW.trod_lt m _ _ _ hm
  obtain ⟨a1, len1, cap1, z1, rfl, w1⟩ := open_Upd (hval 1 39 v1 rfl rfl) h1
  clear hA0 hval0
  refine (walk a0 len0 cap0 z0 a1 len1 cap1 z1 W w0 w1).mono fun e W' ⟨he, bel⟩ => ?_
  subst he
  exact ⟨_, rfl, _, _, _, [], _, [], hW', trodAll_mk1 (shut_bool Try.underlying4 _), (trodAll_cons_mk (Below.trod Try.laidOut (by kernel_rfl) (of_decide_eq_true (by kernel_rfl)) k0 bel lt0) (trodAll_cons_mk (Below.trod Try.laidOut (by kernel_rfl) (of_decide_eq_true (by kernel_rfl)) k1 bel lt1) trodAll_mk0)), rfl, bel.frame _, fun h => by cases h⟩

theorem proved : Rows.FnExactRefsApplySaid :=
  OpenClaim.holds_of_wide 7 Try.f7 rfl rfl rfl rfl rfl rfl rfl ⟨rfl, rfl, rfl, rfl, rfl⟩ rfl rfl rfl rfl rfl (by kernel_rfl) Try.func7 (by kernel_rfl)
    (of_decide_eq_true (by kernel_rfl)) (by unfold Func.isWrapper; first | (rw [if_pos (by decide +kernel)]; kernel_rfl) | (rw [if_neg (by decide +kernel)]; exact ⟨rfl, rfl⟩))
    (fun os started H enc _ => lifted os started H enc)

#print axioms proved
end Go.Proofs.Ytfdcoeghomeadaa.fnExactRefsApply
