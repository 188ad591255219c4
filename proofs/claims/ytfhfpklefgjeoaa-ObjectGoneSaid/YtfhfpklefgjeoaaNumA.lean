/- Numbers of two parts: whether they are right, lists of them. Conditions: none. -/
import Derived.Test.YtfhfpklefgjeoaaProg
import Derived.Test.YtfhfpklefgjeoaaEvV
import Derived.KernelRfl
namespace Go.Ev
open Go Go.Proofs
set_option maxRecDepth 10000

abbrev Num := Int × Int
def encN (x : Num) : List Value := [.int .i64 x.1, .int .i64 x.2]
def vN (x : Num) : Value := .agg #[.int .i64 x.1, .int .i64 x.2]
def okI (n : Int) : Prop := -9223372036854775808 ≤ n ∧ n < 9223372036854775808
def mayN (n : Int) : Bool := decide (-1048576 ≤ n) && decide (n ≤ 1048576)
def rightN (x : Num) : Bool := mayN x.1 && mayN x.2
theorem rightN_iff {x : Num} : rightN x = true ↔ (-1048576 ≤ x.1 ∧ x.1 ≤ 1048576) ∧ -1048576 ≤ x.2 ∧ x.2 ≤ 1048576 := by
  simp [rightN, mayN, Bool.and_eq_true, decide_eq_true_eq]
theorem all_take {α : Type} {l : List α} {f : α → Bool} {k : Nat} (h : k < l.length) (h1 : (l.take k).all f = true) (h2 : f l[k] = true) : (l.take (k + 1)).all f = true := by
  rw [List.take_succ_eq_append_getElem h, List.all_append, h1]; simp [h2]
theorem all_not {α : Type} {l : List α} {f : α → Bool} {k : Nat} (h : k < l.length) (h2 : f l[k] = false) : l.all f = false := by
  rw [List.all_eq_false]; exact ⟨l[k], List.getElem_mem h, by simp [h2]⟩

theorem may_any (n : Int) : Fn Try.prog 85 [.int .i64 n] (.bool (mayN n)) := by
  intro β w As h
  refine calls_W (args := [.int .i64 n]) Try.func85 rfl rfl rfl ?_
  conv => whnf
  repeat (first | (refine CW.run rfl ?_; conv => whnf) | (refine CW.go ?_; conv => whnf) | (refine Wr.any ?_; conv => whnf))
  refine sel_mk (fun h1 => ?_) (fun h1 => ?_)
  all_goals
    conv => whnf
    repeat (first | (refine CW.run rfl ?_; conv => whnf) | (refine CW.go ?_; conv => whnf) | (refine Wr.any ?_; conv => whnf))
    exact ⟨retB (by unfold mayN; rw [h1]; simp), h⟩

theorem refRight_any (x : Num) : Fn Try.prog 44 [vN x] (.bool (rightN x)) := by
  intro β w As h
  refine calls_W (args := [vN x]) Try.func44 rfl rfl rfl ?_
  conv => whnf
  repeat (first | (refine CW.run rfl ?_; conv => whnf) | (refine CW.go ?_; conv => whnf) | (refine Wr.any ?_; conv => whnf))
  refine h.newK fun b w h => ?_
  conv => whnf
  repeat (first | (refine CW.run rfl ?_; conv => whnf) | (refine CW.go ?_; conv => whnf) | (refine Wr.any ?_; conv => whnf))
  refine h.ld 0 rfl rfl ?_
  conv => whnf
  repeat (first | (refine CW.run rfl ?_; conv => whnf) | (refine CW.go ?_; conv => whnf) | (refine Wr.any ?_; conv => whnf))
  refine sel_mk (fun h1 => ?_) (fun h1 => ?_)
  · conv => whnf
    repeat (first | (refine CW.run rfl ?_; conv => whnf) | (refine CW.go ?_; conv => whnf) | (refine Wr.any ?_; conv => whnf))
    refine h.ld 0 rfl rfl ?_
    conv => whnf
    repeat (first | (refine CW.run rfl ?_; conv => whnf) | (refine CW.go ?_; conv => whnf) | (refine Wr.any ?_; conv => whnf))
    refine sel_mk (fun h2 => ?_) (fun h2 => ?_)
    · conv => whnf
      repeat (first | (refine CW.run rfl ?_; conv => whnf) | (refine CW.go ?_; conv => whnf) | (refine Wr.any ?_; conv => whnf))
      refine h.ld 0 rfl rfl ?_
      conv => whnf
      repeat (first | (refine CW.run rfl ?_; conv => whnf) | (refine CW.go ?_; conv => whnf) | (refine Wr.any ?_; conv => whnf))
      refine sel_mk (fun h3 => ?_) (fun h3 => ?_)
      · conv => whnf
        repeat (first | (refine CW.run rfl ?_; conv => whnf) | (refine CW.go ?_; conv => whnf) | (refine Wr.any ?_; conv => whnf))
        refine h.ld 0 rfl rfl ?_
        conv => whnf
        repeat (first | (refine CW.run rfl ?_; conv => whnf) | (refine CW.go ?_; conv => whnf) | (refine Wr.any ?_; conv => whnf))
        exact ⟨retB (by unfold rightN mayN; rw [h1, h2, h3]; rfl), h.tail⟩
      · conv => whnf
        repeat (first | (refine CW.run rfl ?_; conv => whnf) | (refine CW.go ?_; conv => whnf) | (refine Wr.any ?_; conv => whnf))
        exact ⟨retB (by unfold rightN mayN; rw [h1, h2, h3]; rfl), h.tail⟩
    · conv => whnf
      repeat (first | (refine CW.run rfl ?_; conv => whnf) | (refine CW.go ?_; conv => whnf) | (refine Wr.any ?_; conv => whnf))
      exact ⟨retB (by unfold rightN mayN; rw [h1, h2]; rfl), h.tail⟩
  · conv => whnf
    repeat (first | (refine CW.run rfl ?_; conv => whnf) | (refine CW.go ?_; conv => whnf) | (refine Wr.any ?_; conv => whnf))
    exact ⟨retB (by unfold rightN mayN; rw [h1]; rfl), h.tail⟩

theorem gRight_any {a : Option Addr} {c : Nat} {l : List Num} (hl : l.length ≤ 9223372036854775807) : ∀ β w As, Sat β w As → Rds β As 2 encN a l →
    Calls Try.prog 55 #[.slice a l.length c] w fun e w' => e = .returned (.bool (l.all rightN)) ∧ Sat β w' As := by
  intro β w As h hr
  refine calls_W (args := [.slice a l.length c]) Try.func55 rfl rfl rfl ?_
  conv => whnf
  repeat (first | (refine CW.run rfl ?_; conv => whnf) | (refine CW.go ?_; conv => whnf) | (refine Wr.any ?_; conv => whnf))
  refine CW.loop [5, 6, 7] (fun m vs w => ∃ k : Nat, k ≤ l.length ∧ m = l.length - k ∧ vs = [.slice a l.length c, .int .i64 l.length, .int .i64 k] ∧ Sat β w As ∧ (l.take k).all rightN = true) ?_ ?_
  · conv => whnf
    repeat (first | (refine CW.run rfl ?_; conv => whnf) | (refine CW.go ?_; conv => whnf) | (refine Wr.any ?_; conv => whnf))
    exact ⟨_, 0, Nat.zero_le _, rfl, rfl, h, by simp⟩
  rintro m _ w ⟨k, hk, rfl, rfl, h, hall⟩
  conv => whnf
  repeat (first | (refine CW.run rfl ?_; conv => whnf) | (refine CW.go ?_; conv => whnf) | (refine Wr.any ?_; conv => whnf))
  refine sel_mk (fun h1 => ?_) (fun h1 => ?_)
  · have hlt : k < l.length := by simpa using h1
    have hx := List.getElem?_eq_getElem hlt
    conv => whnf
    repeat (first | (refine CW.run rfl ?_; conv => whnf) | (refine CW.go ?_; conv => whnf) | (refine Wr.any ?_; conv => whnf))
    refine Chk.mk ⟨by omega, by omega, hr.okLt hlt⟩ ?_
    conv => whnf
    repeat (first | (refine CW.run rfl ?_; conv => whnf) | (refine CW.go ?_; conv => whnf) | (refine Wr.any ?_; conv => whnf))
    refine hr.ldN (i := k) h hx rfl (by simp) ?_
    conv => whnf
    repeat (first | (refine CW.run rfl ?_; conv => whnf) | (refine CW.go ?_; conv => whnf) | (refine Wr.any ?_; conv => whnf))
    refine h.newK fun b w h => ?_
    conv => whnf
    repeat (first | (refine CW.run rfl ?_; conv => whnf) | (refine CW.go ?_; conv => whnf) | (refine Wr.any ?_; conv => whnf))
    refine h.store 0 rfl rfl rfl rfl rfl ?_
    conv => whnf
    repeat (refine Wr.any ?_; conv => whnf)
    intro w h
    conv => whnf
    repeat (first | (refine CW.run rfl ?_; conv => whnf) | (refine CW.go ?_; conv => whnf) | (refine Wr.any ?_; conv => whnf))
    refine h.ld 0 rfl rfl ?_
    have m1 := may_any l[k].1
    have m2 := may_any l[k].2
    generalize e1 : mayN l[k].1 = b1 at m1
    generalize e2 : mayN l[k].2 = b2 at m2
    conv => whnf
    repeat (first | (refine CW.run rfl ?_; conv => whnf) | (refine CW.go ?_; conv => whnf) | (refine Wr.any ?_; conv => whnf))
    refine m1.call h (Try.call85 _ _) fun w h => ?_
    conv => whnf
    repeat (first | (refine CW.run rfl ?_; conv => whnf) | (refine CW.go ?_; conv => whnf) | (refine Wr.any ?_; conv => whnf))
    refine sel_mk (fun h2 => ?_) (fun h2 => ?_)
    · conv => whnf
      repeat (first | (refine CW.run rfl ?_; conv => whnf) | (refine CW.go ?_; conv => whnf) | (refine Wr.any ?_; conv => whnf))
      exact ⟨retB (all_not hlt (by simp at h2; rw [rightN, e1, h2]; rfl)).symm, h.tail⟩
    · conv => whnf
      repeat (first | (refine CW.run rfl ?_; conv => whnf) | (refine CW.go ?_; conv => whnf) | (refine Wr.any ?_; conv => whnf))
      refine h.ld 0 rfl rfl ?_
      conv => whnf
      repeat (first | (refine CW.run rfl ?_; conv => whnf) | (refine CW.go ?_; conv => whnf) | (refine Wr.any ?_; conv => whnf))
      refine m2.call h (Try.call85 _ _) fun w h => ?_
      conv => whnf
      repeat (first | (refine CW.run rfl ?_; conv => whnf) | (refine CW.go ?_; conv => whnf) | (refine Wr.any ?_; conv => whnf))
      refine sel_mk (fun h3 => ?_) (fun h3 => ?_)
      · conv => whnf
        repeat (first | (refine CW.run rfl ?_; conv => whnf) | (refine CW.go ?_; conv => whnf) | (refine Wr.any ?_; conv => whnf))
        exact ⟨retB (all_not hlt (by simp at h3; rw [rightN, e2, h3]; simp)).symm, h.tail⟩
      · conv => whnf
        repeat (first | (refine CW.run rfl ?_; conv => whnf) | (refine CW.go ?_; conv => whnf) | (refine Wr.any ?_; conv => whnf))
        refine ⟨_, ?_, k + 1, hlt, rfl, ?_, h.tail, all_take hlt hall (by simp at h2 h3; rw [rightN, e1, e2, h2, h3]; rfl)⟩
        · omega
        · rw [wr64 (by omega) (by omega)]; rfl
  · have hlt : k = l.length := by simp at h1; omega
    subst hlt
    conv => whnf
    repeat (first | (refine CW.run rfl ?_; conv => whnf) | (refine CW.go ?_; conv => whnf) | (refine Wr.any ?_; conv => whnf))
    rw [List.take_length] at hall
    exact ⟨retB hall.symm, h⟩

theorem clone_any {a : Option Addr} {c : Nat} {l : List Num} (hl : l.length ≤ 4294967296) : ∀ β w As, Sat β w As → Rds β As 2 encN a l →
    Calls Try.prog 56 #[.slice a l.length c] w fun e w' => ∃ a' c', e = .returned (.slice a' l.length c') ∧ Sat β w' (Own 33 2 encN a' c' l :: As) := by
  intro β w As h hr
  refine calls_W (args := [.slice a l.length c]) Try.func56 rfl rfl rfl ?_
  conv => whnf
  repeat (first | (refine CW.run rfl ?_; conv => whnf) | (refine CW.go ?_; conv => whnf) | (refine Wr.any ?_; conv => whnf))
  refine sel_mk (fun h1 => ?_) (fun h1 => ?_)
  · conv => whnf
    repeat (first | (refine CW.run rfl ?_; conv => whnf) | (refine CW.go ?_; conv => whnf) | (refine Wr.any ?_; conv => whnf))
    have h0 : l = [] := by
      cases l with
      | nil => rfl
      | cons x r =>
        obtain ⟨b, o, e⟩ := hr.okLt (i := 0) (by simp)
        rw [e] at h1; cases h1
    subst h0
    exact ⟨_, _, rfl, h.own_nil⟩
  · conv => whnf
    repeat (first | (refine CW.run rfl ?_; conv => whnf) | (refine CW.go ?_; conv => whnf) | (refine Wr.any ?_; conv => whnf))
    refine h.newK fun b w h => ?_
    conv => whnf
    repeat (first | (refine CW.run rfl ?_; conv => whnf) | (refine CW.go ?_; conv => whnf) | (refine Wr.any ?_; conv => whnf))
    have h := h.own_of (sz := 2) (enc := encN) [] rfl (fun _ hx => by cases hx)
    refine Sat.append (l := []) (xs := l) (sz := 2) (enc := encN) h rfl rfl rfl (by decide) rfl rfl rfl hr.cons (fun _ => rfl) (fun _ => rfl) (by show _ * 16 ≤ _; simp; omega) fun a' c' w h => ?_
    conv => whnf
    repeat (first | (refine CW.run rfl ?_; conv => whnf) | (refine CW.go ?_; conv => whnf) | (refine Wr.any ?_; conv => whnf))
    exact ⟨a', c', by simp, h⟩
end Go.Ev
