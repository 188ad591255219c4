/- Programs over a memory that write its first cell last. Conditions: none. -/
import Derived.Test.YtfhfpklefgjeoaaMP
namespace Go.Ev
open Go Go.Proofs

/-- Whatever is written into cell 0 is written last. -/
def Last0 {α : Type} : MP α → Prop
  | .ret _ => True
  | .rd _ k => ∀ x e, Last0 (k x e)
  | .wr i _ k => (i = 0 → ∀ e, ∃ a, k e = .ret a) ∧ ∀ e, Last0 (k e)
theorem Last0.bind {α γ : Type} {f : α → MP γ} (hf : ∀ a, Last0 (f a)) (h0 : ∀ a, ∃ b, f a = .ret b) : ∀ (p : MP α), Last0 p → Last0 (p.bind f)
  | .ret a, _ => hf a
  | .rd i k, h => fun x e => Last0.bind hf h0 _ (h x e)
  | .wr i v k, h => ⟨fun hi e => by
    obtain ⟨a, ha⟩ := h.1 hi e
    obtain ⟨b, hb⟩ := h0 a
    exact ⟨b, by show (k e).bind f = _; rw [ha]; exact hb⟩, fun e => Last0.bind hf h0 _ (h.2 e)⟩
/-- Nothing is written at all. -/
def Reads {α : Type} : MP α → Prop
  | .ret _ => True
  | .rd _ k => ∀ x e, Reads (k x e)
  | .wr _ _ _ => False
theorem Reads.bind {α γ : Type} {f : α → MP γ} (hf : ∀ a, Last0 (f a)) : ∀ (p : MP α), Reads p → Last0 (p.bind f)
  | .ret a, _ => hf a
  | .rd i k, h => fun x e => Reads.bind hf _ (h x e)
  | .wr _ _ _, h => h.elim
theorem rdN_wr (l : List Num) {i : Int} (v : Num) (h : i ≠ 0) : rdN (wrN l i v).1 0 = rdN l 0 := by
  unfold wrN
  split
  · split
    · rename_i h1
      unfold rdN
      simp only [Int.le_refl, if_true, Int.toNat_zero]
      rw [List.getElem?_set_ne (by omega)]
    · rfl
  · rfl
theorem Last0.stops {α : Type} {Z : α → Prop} : ∀ (p : MP α), Strict Z p → Last0 p → ∀ (n : Nat) (l : List Num),
    ((p.run (rdF rdP) (wrF wrP) (n, l)).1 = (p.run rdP wrP l).1 ∧ (p.run (rdF rdP) (wrF wrP) (n, l)).2.2 = (p.run rdP wrP l).2) ∨
      (Z (p.run (rdF rdP) (wrF wrP) (n, l)).1 ∧ (p.run (rdF rdP) (wrF wrP) (n, l)).2.1 = 0 ∧ rdN (p.run (rdF rdP) (wrF wrP) (n, l)).2.2 0 = rdN l 0)
  | .ret a, _, _, n, l => .inl ⟨rfl, rfl⟩
  | .rd i k, ⟨⟨a, h1, h2⟩, h3⟩, h4, n, l => by
    by_cases hn : n = 0
    · right
      have e : rdF rdP (n, l) i = (((0, 0), 41), (n, l)) := by unfold rdF; rw [if_pos hn]
      simp only [MP.run, e, h1]
      exact ⟨h2, hn, trivial⟩
    · have e : rdF rdP (n, l) i = ((rdP l i).1, (n - 1, (rdP l i).2)) := by unfold rdF; rw [if_neg hn]
      simp only [MP.run, e]
      exact Last0.stops _ (h3 _ _) (h4 _ _) (n - 1) _
  | .wr i v k, ⟨⟨a, h1, h2⟩, h3⟩, h4, n, l => by
    by_cases hn : n = 0
    · right
      have e : wrF wrP (n, l) i v = (41, (n, l)) := by unfold wrF; rw [if_pos hn]
      simp only [MP.run, e, h1]
      exact ⟨h2, hn, trivial⟩
    · have e : wrF wrP (n, l) i v = ((wrP l i v).1, (n - 1, (wrP l i v).2)) := by unfold wrF; rw [if_neg hn]
      simp only [MP.run, e]
      by_cases hi : i = 0
      · obtain ⟨b, hb⟩ := h4.1 hi (wrP l i v).1
        rw [hb]
        exact .inl ⟨rfl, rfl⟩
      · rcases Last0.stops _ (h3 (wrP l i v).1) (h4.2 _) (n - 1) (wrP l i v).2 with h5 | ⟨h5, h6, h7⟩
        · exact .inl h5
        · refine .inr ⟨h5, h6, ?_⟩
          rw [h7]; exact rdN_wr l v hi
end Go.Ev
