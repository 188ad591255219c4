/- What is owned of memory: assertions side by side, over an old heap that nobody writes. Conditions: none. -/
import Derived.Test.YtfhfpklefgjeoaaEvG
import Derived.Below
namespace Go.Ev
open Go Go.RowKit

abbrev Hp := List (Nat × Obj)
abbrev Asrt := Hp → Prop

def pt (b : Nat) (o : Obj) : Asrt := fun h => h = [(b, o)]
/-- A row of cells. -/
@[irreducible] def row (b : Nat) (T : TypeId) (cs : List Value) : Asrt := pt b (.cells cs.toArray T (0, 0))
def emp : Asrt := fun h => h = []
def Pu (p : Prop) : Asrt := fun h => h = [] ∧ p
def Ex {α : Type} (f : α → Asrt) : Asrt := fun h => ∃ x, f x h
def St2 (A B : Asrt) : Asrt := fun h => ∃ h1 h2, h = h1 ++ h2 ∧ A h1 ∧ B h2

def SatL : List Asrt → Hp → Prop
  | [], _ => True
  | A :: As, h => ∃ h1 h2, h = h1 ++ h2 ∧ A h1 ∧ SatL As h2

def Fit (β w : World) (h : Hp) : Prop := (h.map Prod.fst).Nodup ∧ ∀ x ∈ h, β.heap.size ≤ x.1 ∧ w.heap[x.1]? = some x.2
structure Sat (β w : World) (As : List Asrt) : Prop where
  intro ::
  unf : Below β.heap.size β w ∧ ∃ h, SatL As h ∧ Fit β w h

section
variable {β w : World} {As Bs : List Asrt} {A B C D E F G : Asrt}

theorem Sat.mk' (hb : Below β.heap.size β w) (h : Hp) (hs : SatL As h) (hf : Fit β w h) : Sat β w As := ⟨hb, h, hs, hf⟩
theorem Sat.out (h : Sat β w As) : Below β.heap.size β w ∧ ∃ h, SatL As h ∧ Fit β w h := h.unf
theorem Sat.below (h : Sat β w As) : Below β.heap.size β w := h.out.1
theorem Sat.start (w : World) : Sat w w [] := .mk' (Below.refl _ _) [] trivial ⟨by simp, by simp⟩

theorem Fit.of_perm {h h' : Hp} (hp : h.Perm h') (hf : Fit β w h) : Fit β w h' :=
  ⟨(hp.map Prod.fst).nodup_iff.1 hf.1, fun x hx => hf.2 x (hp.mem_iff.2 hx)⟩
theorem Fit.right {h1 h2 : Hp} (hf : Fit β w (h1 ++ h2)) : Fit β w h2 := by
  refine ⟨?_, fun x hx => hf.2 x (by simp [hx])⟩
  have := hf.1; rw [List.map_append] at this; exact (List.nodup_append.1 this).2.1
theorem Fit.left {h1 h2 : Hp} (hf : Fit β w (h1 ++ h2)) : Fit β w h1 := by
  refine ⟨?_, fun x hx => hf.2 x (by simp [hx])⟩
  have := hf.1; rw [List.map_append] at this; exact (List.nodup_append.1 this).1

theorem SatL.perm (hp : As.Perm Bs) : ∀ {h : Hp}, SatL As h → ∃ h', h.Perm h' ∧ SatL Bs h' := by
  induction hp with
  | nil => exact fun {h} hs => ⟨h, .refl _, hs⟩
  | cons A _ ih =>
    rintro h ⟨h1, h2, rfl, ha, hs⟩
    obtain ⟨h3, hp, hs3⟩ := ih hs
    exact ⟨h1 ++ h3, hp.append_left h1, h1, h3, rfl, ha, hs3⟩
  | swap A B l =>
    rintro h ⟨h1, h2, rfl, ha, h3, h4, rfl, hb, hs⟩
    refine ⟨h3 ++ (h1 ++ h4), ?_, h3, _, rfl, hb, h1, h4, rfl, ha, hs⟩
    rw [← List.append_assoc, ← List.append_assoc]
    exact List.Perm.append_right _ List.perm_append_comm
  | trans _ _ ih1 ih2 =>
    intro h hs
    obtain ⟨h', hp, hs'⟩ := ih1 hs
    obtain ⟨h'', hp', hs''⟩ := ih2 hs'
    exact ⟨h'', hp.trans hp', hs''⟩

theorem Sat.perm (hp : As.Perm Bs) (h : Sat β w As) : Sat β w Bs := by
  obtain ⟨hb, hh, hs, hf⟩ := h.out
  obtain ⟨h', hp', hs'⟩ := SatL.perm hp hs
  exact .mk' hb h' hs' (hf.of_perm hp')
theorem Sat.tail (h : Sat β w (A :: As)) : Sat β w As := by
  obtain ⟨hb, hh, ⟨h1, h2, rfl, _, hs⟩, hf⟩ := h.out
  exact .mk' hb h2 hs hf.right
theorem Sat.f1 (h : Sat β w (A :: B :: As)) : Sat β w (B :: A :: As) := h.perm (.swap _ _ _)
theorem Sat.f2 (h : Sat β w (A :: B :: C :: As)) : Sat β w (C :: A :: B :: As) := h.perm ((List.Perm.cons A (.swap _ _ _)).trans (.swap _ _ _))
theorem Sat.b2 (h : Sat β w (C :: A :: B :: As)) : Sat β w (A :: B :: C :: As) := h.perm ((List.Perm.swap _ _ _).trans (List.Perm.cons A (.swap _ _ _)))

theorem Sat.star : Sat β w ((St2 A B) :: As) ↔ Sat β w (A :: B :: As) := by
  constructor
  · intro h
    obtain ⟨hb, hh, ⟨h1, h2, rfl, ⟨h3, h4, rfl, ha, hbb⟩, hs⟩, hf⟩ := h.out
    exact .mk' hb (h3 ++ (h4 ++ h2)) ⟨h3, _, rfl, ha, h4, h2, rfl, hbb, hs⟩ (by simpa using hf)
  · intro h
    obtain ⟨hb, hh, ⟨h1, h2, rfl, ha, h3, h4, rfl, hbb, hs⟩, hf⟩ := h.out
    exact .mk' hb ((h1 ++ h3) ++ h4) ⟨_, h4, rfl, ⟨h1, h3, rfl, ha, hbb⟩, hs⟩ (by simpa using hf)
theorem Sat.ex {α : Type} {f : α → Asrt} : Sat β w (Ex f :: As) ↔ ∃ x, Sat β w (f x :: As) := by
  constructor
  · intro h
    obtain ⟨hb, hh, ⟨h1, h2, rfl, ⟨x, hx⟩, hs⟩, hf⟩ := h.out
    exact ⟨x, .mk' hb _ ⟨h1, h2, rfl, hx, hs⟩ hf⟩
  · rintro ⟨x, h⟩
    obtain ⟨hb, hh, ⟨h1, h2, rfl, hx, hs⟩, hf⟩ := h.out
    exact .mk' hb _ ⟨h1, h2, rfl, ⟨x, hx⟩, hs⟩ hf
theorem Sat.pu {p : Prop} : Sat β w (Pu p :: As) ↔ p ∧ Sat β w As := by
  constructor
  · intro h
    obtain ⟨hb, hh, ⟨h1, h2, rfl, ⟨rfl, hp⟩, hs⟩, hf⟩ := h.out
    exact ⟨hp, .mk' hb h2 hs (by simpa using hf)⟩
  · rintro ⟨hp, h⟩
    obtain ⟨hb, hh, hs, hf⟩ := h.out
    exact .mk' hb ([] ++ hh) ⟨[], hh, rfl, ⟨rfl, hp⟩, hs⟩ (by simpa using hf)
theorem Sat.emp : Sat β w (emp :: As) ↔ Sat β w As := by
  constructor
  · exact Sat.tail
  · intro h
    obtain ⟨hb, hh, hs, hf⟩ := h.out
    exact .mk' hb ([] ++ hh) ⟨[], hh, rfl, rfl, hs⟩ (by simpa using hf)

/-- The world goes on, nothing of the heap turned (a draw). -/
theorem Sat.same {w' : World} (h : Sat β w As) (ht : w'.tape = w.tape) (ho : w'.os = w.os) (hu : w'.output = w.output) (hh : w'.heap = w.heap) : Sat β w' As := by
  obtain ⟨hb, l, hs, hf⟩ := h.out
  refine .mk' ⟨ho.trans hb.os, ht.trans hb.tape, hu.trans hb.output, hh ▸ hb.size, fun k hk => by rw [hh]; exact hb.block k hk⟩ l hs ⟨hf.1, fun x hx => by rw [hh]; exact hf.2 x hx⟩
theorem Sat.drew (h : Sat β w As) : Sat β { w with drawn := w.drawn + 1 } As := h.same rfl rfl rfl rfl

theorem Sat.block {b : Nat} {o : Obj} (h : Sat β w (pt b o :: As)) : w.heap[b]? = some o ∧ β.heap.size ≤ b := by
  obtain ⟨hb, l, ⟨h1, h2, rfl, rfl, hs⟩, hf⟩ := h.out
  have := hf.2 (b, o) (by simp)
  exact ⟨this.2, this.1⟩
theorem Sat.row_block {b : Nat} {T : TypeId} {cs : List Value} (h : Sat β w (row b T cs :: As)) : w.heap[b]? = some (.cells cs.toArray T (0, 0)) ∧ β.heap.size ≤ b := by
  unfold row at h; exact h.block

theorem getElem_mem_perm {α : Type} : ∀ (l : List α) (i : Nat) (a : α), l[i]? = some a → l.Perm (a :: l.eraseIdx i)
  | [], i, a, h => by simp at h
  | x :: l, 0, a, h => by simp at h; subst h; exact .refl _
  | x :: l, i + 1, a, h => by
    have h' : l[i]? = some a := by simpa using h
    exact ((getElem_mem_perm l i a h').cons x).trans (.swap _ _ _)
/-- Number i to the front. -/
theorem Sat.front (i : Nat) (h : Sat β w As) (hA : As[i]? = some A) : Sat β w (A :: As.eraseIdx i) := h.perm (getElem_mem_perm As i A hA)

theorem cell_of_block {b o : Nat} {c : Array Value} {T : TypeId} {fz : Nat × Nat} (h : w.heap[b]? = some (.cells c T fz)) : w.cell? ⟨b, o, none⟩ = c[o]? := by
  simp [World.cell?, h]
theorem frozen_of_block {b o : Nat} {c : Array Value} {T : TypeId} (h : w.heap[b]? = some (.cells c T (0, 0))) : w.frozen? ⟨b, o, none⟩ = false := by
  simp [World.frozen?, h]

/-- A cell of the i-th of what is owned. -/
theorem Sat.cell {b o : Nat} {T : TypeId} {cs : List Value} {v : Value} (i : Nat) (h : Sat β w As) (hA : As[i]? = some (row b T cs)) (hc : cs[o]? = some v) : w.cell? ⟨b, o, none⟩ = some v := by
  rw [cell_of_block (h.front i hA).row_block.1]
  simpa using hc
theorem Sat.ld {b o : Nat} {T : TypeId} {cs : List Value} {v : Value} {K : Value → Prop} (i : Nat) (h : Sat β w As) (hA : As[i]? = some (row b T cs)) (hc : cs[o]? = some v) (k : K v) : Ld w ⟨b, o, none⟩ K :=
  .mk v (h.cell i hA hc) k
theorem Addr.add_none (b o i : Nat) : (⟨b, o, none⟩ : Addr).add i = ⟨b, o + i, none⟩ := by
  unfold Addr.add
  by_cases h : i = 0
  · simp [h]
  · simp [h]
/-- A row of cells of the i-th of what is owned. -/
theorem Sat.ldN {b o n : Nat} {T : TypeId} {cs : List Value} {K : List Value → Prop} (i : Nat) (h : Sat β w As) (hA : As[i]? = some (row b T cs)) (vs : List Value)
    (hc : (cs.drop o).take n = vs) (hl : vs.length = n) (k : K vs) : LdN w ⟨b, o, none⟩ n K := by
  refine .mk vs hl (fun j hj => ?_) k
  rw [Addr.add_none, cell_of_block (h.front i hA).row_block.1, ← hc]
  simp [hj]

/-- Old memory reads as it did. -/
theorem Sat.old {a : Addr} (h : Sat β w As) (ha : a.block < β.heap.size) : w.cell? a = β.cell? a := h.below.cell ha

theorem Sat.update {b : Nat} {o o' : Obj} {w' : World} (h : Sat β w (pt b o :: As)) (ht : w'.tape = w.tape) (ho : w'.os = w.os) (hu : w'.output = w.output)
    (hsz : w'.heap.size = w.heap.size) (hb : w'.heap[b]? = some o') (hne : ∀ k, k ≠ b → w'.heap[k]? = w.heap[k]?) : Sat β w' (pt b o' :: As) := by
  have hbb := h.block.2
  obtain ⟨hbl, l, ⟨h1, h2, rfl, rfl, hs⟩, hf⟩ := h.out
  refine .mk' ⟨ho.trans hbl.os, ht.trans hbl.tape, hu.trans hbl.output, hsz ▸ hbl.size, fun k hk => ?_⟩ ((b, o') :: h2) ⟨[(b, o')], h2, rfl, rfl, hs⟩ ⟨?_, ?_⟩
  · rw [hne k (by omega)]; exact hbl.block k hk
  · simpa using hf.1
  · intro x hx
    rcases List.mem_cons.1 hx with rfl | hx
    · exact ⟨hbb, hb⟩
    · have hx1 := hf.2 x (by simp [hx])
      refine ⟨hx1.1, ?_⟩
      have hnd := hf.1
      simp only [List.cons_append, List.nil_append, List.map_cons, List.nodup_cons] at hnd
      have : x.1 ≠ b := fun e => hnd.1 (by rw [← e]; exact List.mem_map_of_mem hx)
      rw [hne _ this]; exact hx1.2

theorem Sat.new {o : Obj} (h : Sat β w As) : Sat β { w with heap := w.heap.push o } (pt w.heap.size o :: As) := by
  obtain ⟨hb, l, hs, hf⟩ := h.out
  have old : ∀ k, k < w.heap.size → (w.heap.push o)[k]? = w.heap[k]? := fun k hk => by
    rw [Array.getElem?_push, if_neg (by omega)]
  refine .mk' ⟨hb.os, hb.tape, hb.output, ?_, fun k hk => ?_⟩ ((w.heap.size, o) :: l) ⟨[(w.heap.size, o)], l, rfl, rfl, hs⟩ ⟨?_, ?_⟩
  · have := hb.size; simp; omega
  · have := hb.size
    rw [old k (by omega)]; exact hb.block k hk
  · simp only [List.map_cons, List.nodup_cons]
    refine ⟨fun hm => ?_, hf.1⟩
    obtain ⟨x, hx, he⟩ := List.mem_map.1 hm
    have h2 := (hf.2 x hx).2
    rw [he, Array.getElem?_eq_none (Nat.le_refl _)] at h2
    cases h2
  · intro x hx
    rcases List.mem_cons.1 hx with rfl | hx
    · exact ⟨hb.size, by simp⟩
    · have h2 := (hf.2 x hx).2
      refine ⟨(hf.2 x hx).1, ?_⟩
      have hlt : x.1 < w.heap.size := by
        rcases Nat.lt_or_ge x.1 w.heap.size with h3 | h3
        · exact h3
        · rw [Array.getElem?_eq_none h3] at h2; cases h2
      show (w.heap.push o)[x.1]? = _
      rw [old _ hlt]; exact h2
theorem Sat.newRow {T : TypeId} {cs : List Value} (h : Sat β w As) : Sat β { w with heap := w.heap.push (.cells cs.toArray T) } (row w.heap.size T cs :: As) := by
  unfold row; exact h.new

theorem Sat.setCell {b o : Nat} {T : TypeId} {cs : List Value} {v : Value} (h : Sat β w (row b T cs :: As)) : Sat β (w.setCell ⟨b, o, none⟩ v) (row b T (cs.set o v) :: As) := by
  have hb := h.row_block.1
  unfold row at *
  refine h.update rfl rfl rfl (by simp [World.setCell]) ?_ (fun k hk => by simp only [World.setCell, Array.getElem?_modify]; rw [if_neg (by omega)])
  simp only [World.setCell, Array.getElem?_modify, if_true, hb, Option.map_some]
  simp
end
end Go.Ev
