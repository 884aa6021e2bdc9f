/-
  The walk of the reference's l13All: objects are stored one after the other. Condition: the objects are valid and few.
-/
import Derived.Test.YtgpjcmplnigmcaaSpecQ
namespace Go.Proofs.Ytgpjcmplnigmcaa
set_option linter.unusedVariables false
set_option linter.unusedSimpArgs false
open Go.RowKit

theorem allP_objs {s l : List ObjD} (hs : ∀ o ∈ s, objB o = true) (hl : ∀ o ∈ l, objB o = true) : ∀ o ∈ (allP s l).1, objB o = true := by
  rcases hb : (allP s l).2 with _ | _
  · rw [allP_no hb]; intro o h; cases h
  · exact allP_inv (P := fun s => ∀ o ∈ s, objB o = true) l (fun s o hs hm _ => putL_objs hs (hl o hm)) s hs hb

set_option maxRecDepth 100000 in
set_option maxHeartbeats 1600000 in
theorem l13All_any (st list : List ObjD) (A : Option Addr) (n c : Nat) (B : Option Addr) (m d : Nat) (w : World) (lo hi lo' hi' : Nat) (hh : hi ≤ w.heap.size) (hh' : hi' ≤ w.heap.size) (hn : n + m ≤ 900)
    (hs : ∀ o ∈ st, objB o = true) (hl : ∀ o ∈ list, objB o = true) (h : D.rd w lo hi (dObjects st) (.slice A n c)) (h' : D.rd w lo' hi' (dObjects list) (.slice B m d)) :
    Calls Try.prog 45 #[.slice A n c, .slice B m d] w fun e w' => PutR w (allP st list).1 (allP st list).2 e w' := by
  have hm63 : m ≤ 9223372036854775807 := by have := h'.len; omega
  have HI := Lib.hid h
  have HJ := Lib.hid h'
  have HS := Lib.hid hs
  have HL := Lib.hid hl
  have HN := Lib.hid h.len.1
  have HM := Lib.hid h'.len.1
  clear h h' hs hl
  go_enter Try.func45, Try.ntmps45
  go_wp2_with fail
  refine (l1Copy_any st A n c w lo hi hh (by omega) (fun o ho => by have := (objB_and (HS.out o ho)).2.1; omega) HI.out).mono ?_
  rintro e w1 ⟨C, d1, hg1, hb1, rfl⟩
  have HG1 : Hid (Grow w1 w.heap.size 58 3 (.slice C n d1) n ((allP st (list.take 0)).1.flatMap fObject)) := hg1
  have HB1 := Lib.hid hb1
  clear hg1 hb1
  go_wp2_with fail
  go_loopw [6, 7] (fun v i wr => ∃ (k : Nat) (C : Option Addr) (q dq : Nat), k ≤ m ∧ q ≤ n + k ∧ i = .int .i64 k ∧ v = .slice C q dq ∧ Hid ((allP st (list.take k)).2 = true) ∧ Hid (q = (allP st (list.take k)).1.length) ∧ Hid (Grow wr w.heap.size 58 3 (.slice C q dq) q ((allP st (list.take k)).1.flatMap fObject)) ∧ Below w.heap.size w wr) (fun _ i _ => m - (intOf i).toNat)
  case atStart => exact ⟨0, C, n, d1, Nat.zero_le _, by omega, rfl, rfl, rfl, HN, HG1, HB1.out⟩
  case round =>
    obtain ⟨k, C2, q, dq, hk, hqn, rfl, rfl, HT, HQ, HG, hbw⟩ := hrel
    have HB := Lib.hid hbw
    have hwsz := hbw.size
    clear hbw HG1 HB1
    by_cases hlt : k < m
    · obtain ⟨b, o, hlk, A3, n3, c3, rfl, _, hbh, hc0, hc1, hc2, ⟨hn3, hm3, hr3⟩, ht3⟩ := rd_Object (HJ.out.below HB.out hh') hlt
      have hhr : hi' ≤ wr.heap.size := Nat.le_trans hh' hwsz
      have HVK := Lib.hid (show objB ⟨list[k].kind, list[k].links, list[k].text⟩ = true from HL.out _ (List.getElem_mem hlk))
      have HR3 := Lib.hid hr3
      have HRS : Hid (D.rd wr w.heap.size wr.heap.size (dObjects (allP st (list.take k)).1) (.slice C2 q dq)) := by
        have h1 := HG.out.own.rd
        show D.rd _ _ _ _ _
        unfold dObjects
        rw [← HQ.out]; exact h1
      have HST : Hid (∀ o ∈ (allP st (list.take k)).1, objB o = true) := Lib.hid (allP_objs HS.out fun o ho => HL.out o (List.mem_of_mem_take ho))
      clear hr3
      go_wp2_with fail
      refine (l1Put_any (allP st (list.take k)).1 list[k].kind list[k].links list[k].text C2 q dq A3 n3 c3 wr w.heap.size wr.heap.size lo' hi' (Nat.le_refl _) hhr (by omega) HST.out HVK.out HRS.out HR3.out).mono ?_
      rintro e w2 ⟨C4, q4, d4, hq4, hg4, hb4, rfl⟩
      have HB2 := Lib.hid (bel_tr HB.out (Nat.le_refl _) hb4)
      have HG2 := Lib.hid (hg4.low hwsz)
      have HQ4 := Lib.hid hq4
      have hq41 : q4 ≤ q + 1 := by rw [hq4, HQ.out]; exact putL_len.2.1
      clear hg4 hb4 hq4
      rcases hpb : putB (allP st (list.take k)).1 ⟨list[k].kind, list[k].links, list[k].text⟩ with _ | _
      · have hno := Lib.hid (allP_fail hlk HT.out hpb)
        have hww2 := HB2.out.size
        clear hpb
        go_wp2_with fail
        go_ret2
        refine ⟨_, 0, 0, by rw [hno.out]; rfl, ?_, HB2.out.alloc HB2.out.size _, by rw [hno.out]; rfl⟩
        rw [hno.out]
        exact Grow.nil ((own_nil_lit w2 58 3 |> fun h => (⟨h.1, by
          rcases h.2 with h | ⟨a1, a2, a3, a4, a5, a6⟩
          · exact .inl h
          · exact .inr ⟨a1, a2, a3, a4, Nat.le_trans hww2 a5, a6⟩⟩ : World.ownsRow _ w.heap.size _ _ _ _ _)))
      · have hst := Lib.hid (allP_step hlk HT.out hpb)
        clear hpb
        go_wp2_with fail
        go_roundw
        case rel => exact ⟨k + 1, C4, q4, d4, by omega, by omega, by go_num, rfl, by show _ = _; rw [hst.out], by show _ = _; rw [hst.out]; exact HQ4.out, by show Grow _ _ _ _ _ _ _; rw [hst.out]; exact HG2.out, HB2.out⟩
        case measure => simp [intOf]; omega
    · have hkm : k = m := by omega
      subst hkm
      have hall : list.take k = list := List.take_of_length_le (by rw [← HM.out]; exact Nat.le_refl _)
      have HALL := Lib.hid hall
      clear hall
      go_wp2_with fail
      go_ret2
      refine ⟨C2, q, dq, by rw [← HALL.out]; exact HQ.out, ?_, HB.out, ?_⟩
      · have := HG.out; rw [HALL.out] at this; exact this
      · have := HT.out; rw [HALL.out] at this; rw [this]; rfl

end Go.Proofs.Ytgpjcmplnigmcaa
