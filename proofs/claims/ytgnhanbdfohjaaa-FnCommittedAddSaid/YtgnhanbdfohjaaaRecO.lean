/-
  A row of records of the call's own, whose updates lie apart from it: kept, appended to, read. Plain words; no condition.
-/
import Derived.Test.YtgnhanbdfohjaaaSpecG
import Derived.Test.YtgnhanbdfohjaaaImplK
import Derived.Test.YtgnhanbdfohjaaaK3
namespace Go.Proofs.Ytgnhanbdfohjaaa
set_option linter.unusedVariables false
set_option linter.unusedSimpArgs false
open Go.RowKit

theorem Rd.grown_ne {w w' : World} {lo hi : Nat} {A : Option Addr} {cs : List Value} {row : Option Nat} (h : Rd w lo hi A cs) (hg : w.grownBy w' row) (hhi : hi ≤ w.heap.size) (hne : ∀ b o s, A = some ⟨b, o, s⟩ → row ≠ some b) : Rd w' lo hi A cs := fun hn => by
  obtain ⟨b, o, e, h1, h2, hc⟩ := h hn
  exact ⟨b, o, e, h1, h2, fun j u hu => (World.cell?_of_block (hg.block b (by omega) (fun e' => hne b o none e e'.symm))).trans (hc j u hu)⟩
theorem FlH.grown_ne {α : Type} {f : α → List Value} {w w' : World} {lo n : Nat} {A : Option Addr} {xs : List α} {row : Option Nat} (h : FlH f w lo A n xs) (hg : w.grownBy w' row) (hne : xs.flatMap f ≠ [] → ∀ b o s, A = some ⟨b, o, s⟩ → row ≠ some b) : FlH f w' lo A n xs := by
  refine ⟨h.1, ?_⟩
  by_cases hn : xs.flatMap f = []
  · rw [hn]; exact Rd.nil _ _ _ _
  · exact (h.2.grown_ne hg (Nat.le_refl _) (hne hn)).more (Nat.le_refl _) hg.size
theorem FlH.block {α : Type} {f : α → List Value} {w : World} {lo n : Nat} {A : Option Addr} {xs : List α} (h : FlH f w lo A n xs) (hn : xs.flatMap f ≠ []) {b o : Nat} {s : Option Nat} (e : A.map (·.block) = some b) : lo ≤ b ∧ b < w.heap.size := by
  obtain ⟨b', o', rfl, h1, h2, _⟩ := h.2 hn
  simp at e
  subst e
  exact ⟨h1, h2⟩

/-- the updates lie apart from the row behind v -/
def ApartU (v : Value) (r : RecC) : Prop := r.us.flatMap cu ≠ [] → ∀ b o s, r.A = some ⟨b, o, s⟩ → v.ownBlock ≠ some b
def RecOwn (w : World) (base : Nat) (v : Value) (n : Nat) (rs : List RecC) : Prop := w.ownsRow base 48 3 v n (rs.flatMap cr) ∧ ∀ r ∈ rs, RecIn w base r ∧ ApartU v r
section
variable {w w' : World} {base base' n : Nat} {v v' : Value} {rs : List RecC} {r : RecC}
theorem RecOwn.recs (h : RecOwn w base v n rs) : ∃ A c, v = .slice A n c ∧ n ≤ c ∧ c ≤ 9223372036854775807 ∧ Recs w base A n rs := by
  obtain ⟨A, c, rfl, h1, h2, hr⟩ := Rd.of_own h.1
  have hl : rs.length = n := by
    have := h.1.1
    rw [flat_len cr 3 cr_len] at this; omega
  exact ⟨A, c, rfl, h1, h2, ⟨hl, hr⟩, fun r hr => (h.2 r hr).1⟩
theorem RecOwn.fresh (h : RecOwn w base v n rs) (hb : Below w.heap.size w w') : RecOwn w' base v n rs := ⟨own_below h.1 hb, fun r hr => ⟨(h.2 r hr).1.bel hb, (h.2 r hr).2⟩⟩
theorem RecOwn.nil (h : w.ownsRow base 48 3 v 0 []) : RecOwn w base v 0 [] := ⟨h, fun r hr => by cases hr⟩
theorem RecOwn.app {w1 : World} {ob : Obj} (h : RecOwn w base v n rs) (hr : RecIn w base r) (ha : ApartU v r) (e1 : w1 = w.alloc ob) (hown : w'.ownsRow base 48 3 v' (n + 1) (rs.flatMap cr ++ cr r)) (hg : w1.grownBy w' v.ownBlock) (hat : v'.ownBlock = v.ownBlock ∨ v'.ownBlock = some w1.heap.size) :
    RecOwn w' base v' (n + 1) (rs ++ [r]) := by
  subst e1
  refine ⟨by rw [List.flatMap_append]; simpa using hown, fun q hq => ?_⟩
  have key : ∀ q, RecIn w base q → ApartU v q → RecIn w' base q ∧ ApartU v' q := by
    intro q hq ha
    refine ⟨⟨(hq.1.alloc ob).grown_ne hg (fun hn b o s e => ha hn b o s e), hq.2⟩, fun hn b o s e => ?_⟩
    rcases hat with hat | hat
    · rw [hat]; exact ha hn b o s e
    · rw [hat]
      intro e2
      injection e2 with e2
      have hb := hq.1.block hn (b := b) (o := o) (s := s.map fun _ => 0) (by rw [e]; rfl)
      have : (w.alloc ob).heap.size = w.heap.size + 1 := by simp
      omega
  rcases List.mem_append.1 hq with hq | hq
  · exact key q (h.2 q hq).1 (h.2 q hq).2
  · rw [List.mem_singleton] at hq; subst hq; exact key q hr ha
/-- a row of one slice's own block -/
theorem RecOwn.blk (h : RecOwn w base v n rs) {g : Nat} (hv : v.ownBlock = some g) : ∃ cur, w.heap[g]? = some (.cells cur 48 (0, 0)) := by
  rcases h.1.2 with ⟨rfl, _⟩ | ⟨g', cap, cur, rfl, hb, hh, _⟩
  · cases hv
  · have : g' = g := by
      have : (Value.slice (some ⟨g', 0, none⟩) n cap).ownBlock = some g' := rfl
      rw [this] at hv; injection hv
    subst this
    exact ⟨cur, hh⟩
theorem RecOwn.put {g : Nat} {arr : Array Value} {T : TypeId} (h : RecOwn w base v n rs) (hg : w.heap[g]? = some (.cells arr T (0, 0))) (hT : T ≠ 48) (hno : ∀ (j : Nat) (x : Int), arr[j]? ≠ some (.int .i64 x)) (j : Nat) (u : Value) : RecOwn (w.setCell ⟨g, j, none⟩ u) base v n rs := by
  refine ⟨h.1.kept (set_grown w g j u) ?_, fun r hr => ⟨⟨(h.2 r hr).1.1.put hg ?_ j u, (h.2 r hr).1.2⟩, (h.2 r hr).2⟩⟩
  · rcases hv : v.ownBlock with _ | q
    · exact .inl rfl
    · refine .inr (fun e => ?_)
      injection e with e
      subst e
      obtain ⟨cur, hc⟩ := h.blk hv
      rw [hg] at hc
      injection hc with hc
      injection hc with _ hc _
      exact hT hc
  · intro x hx i
    obtain ⟨y, _, hy⟩ := List.mem_flatMap.1 hx
    simp only [cu, List.mem_cons, List.not_mem_nil, or_false] at hy
    rcases hy with rfl | rfl | rfl <;> exact hno i _
theorem RecOwn.low (h : RecOwn w base v n rs) (hb : base' ≤ base) : RecOwn w base' v n rs := ⟨own_base h.1 hb, fun r hr => ⟨(h.2 r hr).1.low hb, (h.2 r hr).2⟩⟩
end
theorem RecOwn.setLow {w : World} {base n g : Nat} {v : Value} {rs : List RecC} (h : RecOwn w base v n rs) (hg : g < base) (j : Nat) (u : Value) : RecOwn (w.setCell ⟨g, j, none⟩ u) base v n rs := by
  refine ⟨h.1.kept (set_grown w g j u) ?_, fun r hr => ⟨(h.2 r hr).1.grown (set_grown w g j u) (fun q hq => by injection hq with hq; omega), (h.2 r hr).2⟩⟩
  rcases hv : v.ownBlock with _ | q
  · exact .inl rfl
  · refine .inr (fun e => ?_)
    injection e with e
    have := (h.1.lt q hv).1; omega
theorem RecOwn.grownLow {w w' : World} {base n : Nat} {v : Value} {rs : List RecC} {row : Option Nat} (h : RecOwn w base v n rs) (hg : w.grownBy w' row) (hr : ∀ g, row = some g → g < base) : RecOwn w' base v n rs := by
  refine ⟨h.1.kept hg ?_, fun r hq => ⟨(h.2 r hq).1.grown hg hr, (h.2 r hq).2⟩⟩
  rcases hv : v.ownBlock with _ | q
  · exact .inl rfl
  · refine .inr (fun e => ?_)
    have := hr q e.symm
    have := (h.1.lt q hv).1; omega
theorem RecOwn.recs' {w : World} {base n c : Nat} {A : Option Addr} {rs : List RecC} (h : RecOwn w base (.slice A n c) n rs) : Recs w base A n rs := by
  obtain ⟨A', c', e, _, _, hr⟩ := h.recs
  injection e with e1 _ e3
  subst e1 e3
  exact hr
theorem Recs.drop1 {w : World} {lo n b o : Nat} {rs : List RecC} (h : Recs w lo (some ⟨b, o, none⟩) n rs) (hn : 0 < n) : Recs w lo (some ⟨b, o + 3, none⟩) (n - 1) (rs.drop 1) := by
  rcases rs with _ | ⟨r, rs⟩
  · have := h.1.1; simp at this; omega
  · refine ⟨⟨by have := h.1.1; simp at this; simp; omega, fun hne => ?_⟩, fun q hq => h.2 q (List.mem_of_mem_drop hq)⟩
    obtain ⟨b', o', e, h1, h2, hc⟩ := h.1.2 (by simp [cr])
    injection e with e
    injection e with e1 e2
    subst e1 e2
    refine ⟨b, o + 3, rfl, h1, h2, fun j u hu => ?_⟩
    have := hc (3 + j) u (by rw [List.flatMap_cons, List.getElem?_append_right (by simp [cr])]; simpa [cr] using hu)
    rwa [← Nat.add_assoc] at this
/-- a row of the call's own, read -/
theorem own_fl {α : Type} {f : α → List Value} {w : World} {base size n : Nat} {e : TypeId} {v : Value} {xs : List α} (hf : ∀ x, (f x).length = size) (hs : 0 < size) (h : w.ownsRow base e size v n (xs.flatMap f)) : ∃ A c, v = .slice A n c ∧ n ≤ c ∧ c ≤ 9223372036854775807 ∧ FlH f w base A n xs := by
  have hl : xs.length = n := by
    have := h.1
    rw [flat_len f size hf] at this
    exact Nat.eq_of_mul_eq_mul_right hs this
  obtain ⟨A, c, rfl, h1, h2, hr⟩ := Rd.of_own h
  exact ⟨A, c, rfl, h1, h2, hl, hr⟩
theorem RecOwn.ne_blk {w : World} {base n : Nat} {v : Value} {rs : List RecC} {g : Nat} {arr : Array Value} {T : TypeId} (h : RecOwn w base v n rs) (hg : w.heap[g]? = some (.cells arr T (0, 0))) (hT : T ≠ 48) : v.ownBlock ≠ some g := fun e => by
  obtain ⟨cur, hc⟩ := h.blk e
  rw [hg] at hc
  injection hc with hc
  injection hc with _ hc _
  exact hT hc
theorem cr_one (r : RecC) : ∀ u ∈ cr r, u.oneCell' = true := by
  intro u hu
  simp only [cr, List.mem_cons, List.not_mem_nil, or_false] at hu
  rcases hu with rfl | rfl | rfl <;> rfl
theorem cus_one (us : List Upd) : ∀ u ∈ us.flatMap cu, u.oneCell' = true := by
  intro u hu
  obtain ⟨x, _, hx⟩ := List.mem_flatMap.1 hu
  simp only [cu, List.mem_cons, List.not_mem_nil, or_false] at hx
  rcases hx with rfl | rfl | rfl <;> rfl
/-- a record whose updates have just been copied into new memory -/
theorem apart_new {w0 w : World} {lo base n : Nat} {v : Value} {e : TypeId} {cs : List Value} {r : RecC} (h : w0.ownsRow base e 3 v n cs) (hU : FlH cu w lo r.A r.n r.us) (hlo : w0.heap.size ≤ lo) : ApartU v r := fun hn b o s e hv => by
  have h1 := hU.block hn (b := b) (o := o) (s := s.map fun _ => 0) (by rw [e]; rfl)
  have h2 := (h.lt b hv).2
  omega
/-- records short enough -/
def Short (rs : List Rec) : Prop := rs.length ≤ 1000 ∧ ∀ r ∈ rs, r.us.length ≤ 1000
/-- a shard in memory, handed back -/
def ShRet (rs' : List Rec) (base : Nat) (w : World) (e : Ending) (w' : World) : Prop :=
  ∃ v n rs, abs rs = rs' ∧ RecOwn w' base v n rs ∧ Below w.heap.size w w' ∧ e = .returned (.agg #[v])
def ShRetB (rs' : List Rec) (ok : Bool) (base : Nat) (w : World) (e : Ending) (w' : World) : Prop :=
  ∃ v n rs, abs rs = rs' ∧ RecOwn w' base v n rs ∧ Below w.heap.size w w' ∧ e = .returned (.tuple #[.agg #[v], .bool ok])

end Go.Proofs.Ytgnhanbdfohjaaa
