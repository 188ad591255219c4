/- Memory: a row of numbers behind a pointer. Conditions: none. -/
import Derived.Test.YtfhfpklefgjeoaaNumC
namespace Go.Ev
open Go Go.Proofs
set_option maxRecDepth 10000

/-- A memory's cells. -/
def Plain (b : Nat) (l : List Num) : Asrt := Ex fun a => Ex fun c => St2 (row b 95 [.slice a l.length c]) (Own 33 2 encN a c l)
theorem Sat.plain {β w : World} {As : List Asrt} {b : Nat} {l : List Num} : Sat β w (Plain b l :: As) ↔ ∃ a c, Sat β w (row b 95 [.slice a l.length c] :: Own 33 2 encN a c l :: As) := by
  unfold Plain
  rw [Sat.ex]
  constructor
  · rintro ⟨a, h⟩
    obtain ⟨c, h⟩ := Sat.ex.1 h
    exact ⟨a, c, Sat.star.1 h⟩
  · rintro ⟨a, c, h⟩
    exact ⟨a, Sat.ex.2 ⟨c, Sat.star.2 h⟩⟩
abbrev ptr (b : Nat) : Value := .pointer (some ⟨b, 0, none⟩)

theorem memNew_any (n : Int) (h0 : 0 ≤ n) (h1 : n ≤ 4096) : ∀ β w As, Sat β w As → Calls Try.prog 33 #[.int .i64 n] w fun e w' => ∃ b, e = .returned (.tuple #[ptr b, .int .i64 0]) ∧ Sat β w' (Plain b (List.replicate n.toNat (0, 0)) :: As) := by
  intro β w As h
  refine calls_W (args := [.int .i64 n]) Try.func33 rfl rfl rfl ?_
  conv => whnf
  repeat (first | (refine CW.run rfl ?_; conv => whnf) | (refine CW.go ?_; conv => whnf) | (refine Wr.any ?_; conv => whnf))
  refine sel_false (by simp; omega) ?_
  conv => whnf
  repeat (first | (refine CW.run rfl ?_; conv => whnf) | (refine CW.go ?_; conv => whnf) | (refine Wr.any ?_; conv => whnf))
  refine sel_false (by simp; omega) ?_
  conv => whnf
  repeat (first | (refine CW.run rfl ?_; conv => whnf) | (refine CW.go ?_; conv => whnf) | (refine Wr.any ?_; conv => whnf))
  refine Sat.make (n := n.toNat) (sz := 2) (enc := encN) (0, 0) h rfl rfl rfl rfl rfl rfl (by omega) (by omega) (by show 16 * _ ≤ _; omega) (by omega) fun a w h => ?_
  conv => whnf
  repeat (first | (refine CW.run rfl ?_; conv => whnf) | (refine CW.go ?_; conv => whnf) | (refine Wr.any ?_; conv => whnf))
  refine h.newK fun b w h => ?_
  conv => whnf
  repeat (first | (refine CW.run rfl ?_; conv => whnf) | (refine CW.go ?_; conv => whnf) | (refine Wr.any ?_; conv => whnf))
  refine ⟨b, rfl, Sat.plain.2 ⟨a, n.toNat, ?_⟩⟩
  rw [List.length_replicate]; exact h
theorem memNew_bad (n : Int) (h0 : n < 0 ∨ 4096 < n) : Fn Try.prog 33 [.int .i64 n] (.tuple #[.pointer none, .int .i64 1]) := by
  intro β w As h
  refine calls_W (args := [.int .i64 n]) Try.func33 rfl rfl rfl ?_
  conv => whnf
  repeat (first | (refine CW.run rfl ?_; conv => whnf) | (refine CW.go ?_; conv => whnf) | (refine Wr.any ?_; conv => whnf))
  refine sel_mk (fun h1 => ?_) (fun h1 => ?_)
  · conv => whnf
    repeat (first | (refine CW.run rfl ?_; conv => whnf) | (refine CW.go ?_; conv => whnf) | (refine Wr.any ?_; conv => whnf))
    exact ⟨rfl, h⟩
  · conv => whnf
    repeat (first | (refine CW.run rfl ?_; conv => whnf) | (refine CW.go ?_; conv => whnf) | (refine Wr.any ?_; conv => whnf))
    refine sel_true (by simp at h1; simp; omega) ?_
    conv => whnf
    repeat (first | (refine CW.run rfl ?_; conv => whnf) | (refine CW.go ?_; conv => whnf) | (refine Wr.any ?_; conv => whnf))
    exact ⟨rfl, h⟩

theorem memLoad_any {a : Option Addr} {c : Nat} {l : List Num} (hr1 : l.all rightN = true) (hr2 : l.length ≤ 4096) : ∀ β w As, Sat β w As → Rds β As 2 encN a l →
    Calls Try.prog 16 #[.slice a l.length c] w fun e w' => ∃ b, e = .returned (.tuple #[ptr b, .int .i64 0]) ∧ Sat β w' (Plain b l :: As) := by
  intro β w As h hr
  refine calls_W (args := [.slice a l.length c]) Try.func16 rfl rfl rfl ?_
  conv => whnf
  repeat (first | (refine CW.run rfl ?_; conv => whnf) | (refine CW.go ?_; conv => whnf) | (refine Wr.any ?_; conv => whnf))
  refine sel_false (by simp; omega) ?_
  conv => whnf
  repeat (first | (refine CW.run rfl ?_; conv => whnf) | (refine CW.go ?_; conv => whnf) | (refine Wr.any ?_; conv => whnf))
  refine CallF.val (gRight_any (by omega) β w _ h hr) (Try.call55 _ _) fun w h => ?_
  rw [hr1]
  conv => whnf
  repeat (first | (refine CW.run rfl ?_; conv => whnf) | (refine CW.go ?_; conv => whnf) | (refine Wr.any ?_; conv => whnf))
  refine CallF.ret (clone_any (by omega) β w _ h hr) (Try.call56 _ _) ?_
  rintro _ w ⟨a', c', rfl, h⟩
  refine ⟨_, rfl, ?_⟩
  conv => whnf
  repeat (first | (refine CW.run rfl ?_; conv => whnf) | (refine CW.go ?_; conv => whnf) | (refine Wr.any ?_; conv => whnf))
  refine h.newK fun b w h => ?_
  conv => whnf
  repeat (first | (refine CW.run rfl ?_; conv => whnf) | (refine CW.go ?_; conv => whnf) | (refine Wr.any ?_; conv => whnf))
  exact ⟨b, rfl, Sat.plain.2 ⟨a', c', h⟩⟩
theorem memLoad_bad {a : Option Addr} {c : Nat} {l : List Num} (hl : l.length ≤ 9223372036854775807) (hr1 : (l.all rightN && decide (l.length ≤ 4096)) = false) : ∀ β w As, Sat β w As → Rds β As 2 encN a l →
    Calls Try.prog 16 #[.slice a l.length c] w fun e w' => e = .returned (.tuple #[.pointer none, .int .i64 1]) ∧ Sat β w' As := by
  intro β w As h hr
  refine calls_W (args := [.slice a l.length c]) Try.func16 rfl rfl rfl ?_
  conv => whnf
  repeat (first | (refine CW.run rfl ?_; conv => whnf) | (refine CW.go ?_; conv => whnf) | (refine Wr.any ?_; conv => whnf))
  refine sel_mk (fun h1 => ?_) (fun h1 => ?_)
  · conv => whnf
    repeat (first | (refine CW.run rfl ?_; conv => whnf) | (refine CW.go ?_; conv => whnf) | (refine Wr.any ?_; conv => whnf))
    exact ⟨rfl, h⟩
  · conv => whnf
    repeat (first | (refine CW.run rfl ?_; conv => whnf) | (refine CW.go ?_; conv => whnf) | (refine Wr.any ?_; conv => whnf))
    refine CallF.val (gRight_any hl β w _ h hr) (Try.call55 _ _) fun w h => ?_
    have : l.all rightN = false := by
      simp only [decide_eq_false_iff_not] at h1
      rw [show decide (l.length ≤ 4096) = true by simp; omega, Bool.and_true] at hr1
      exact hr1
    rw [this]
    conv => whnf
    repeat (first | (refine CW.run rfl ?_; conv => whnf) | (refine CW.go ?_; conv => whnf) | (refine Wr.any ?_; conv => whnf))
    exact ⟨rfl, h⟩

section
variable {b : Nat} {l : List Num}
theorem size_any : ∀ β w As, Sat β w (Plain b l :: As) → Calls Try.prog 31 #[ptr b] w fun e w' => e = .returned (.int .i64 l.length) ∧ Sat β w' (Plain b l :: As) := by
  intro β w As h
  refine calls_W (args := [ptr b]) Try.func31 rfl rfl rfl ?_
  obtain ⟨a, c, h⟩ := Sat.plain.1 h
  conv => whnf
  repeat (first | (refine CW.run rfl ?_; conv => whnf) | (refine CW.go ?_; conv => whnf) | (refine Wr.any ?_; conv => whnf))
  refine h.ld 0 rfl rfl ?_
  conv => whnf
  repeat (first | (refine CW.run rfl ?_; conv => whnf) | (refine CW.go ?_; conv => whnf) | (refine Wr.any ?_; conv => whnf))
  exact ⟨rfl, Sat.plain.2 ⟨a, c, h⟩⟩
theorem in_any (i : Int) : ∀ β w As, Sat β w (Plain b l :: As) → Calls Try.prog 60 #[ptr b, .int .i64 i] w fun e w' => e = .returned (.bool (decide (0 ≤ i ∧ i < l.length))) ∧ Sat β w' (Plain b l :: As) := by
  intro β w As h
  refine calls_W (args := [ptr b, .int .i64 i]) Try.func60 rfl rfl rfl ?_
  conv => whnf
  repeat (first | (refine CW.run rfl ?_; conv => whnf) | (refine CW.go ?_; conv => whnf) | (refine Wr.any ?_; conv => whnf))
  refine sel_mk (fun h1 => ?_) (fun h1 => ?_)
  · conv => whnf
    repeat (first | (refine CW.run rfl ?_; conv => whnf) | (refine CW.go ?_; conv => whnf) | (refine Wr.any ?_; conv => whnf))
    refine CallF.val (size_any β w _ h) (Try.call31 _ _) fun w h => ?_
    conv => whnf
    repeat (first | (refine CW.run rfl ?_; conv => whnf) | (refine CW.go ?_; conv => whnf) | (refine Wr.any ?_; conv => whnf))
    exact ⟨retB (by simp at h1; simp [h1]), h⟩
  · conv => whnf
    repeat (first | (refine CW.run rfl ?_; conv => whnf) | (refine CW.go ?_; conv => whnf) | (refine Wr.any ?_; conv => whnf))
    exact ⟨retB (by simp at h1; simp; omega), h⟩
theorem read_any (i : Int) : ∀ β w As, Sat β w (Plain b l :: As) → Calls Try.prog 30 #[ptr b, .int .i64 i] w fun e w' => e = .returned (.tuple #[vN (rdN l i).1, .int .i64 (rdN l i).2]) ∧ Sat β w' (Plain b l :: As) := by
  intro β w As h
  refine calls_W (args := [ptr b, .int .i64 i]) Try.func30 rfl rfl rfl ?_
  conv => whnf
  repeat (first | (refine CW.run rfl ?_; conv => whnf) | (refine CW.go ?_; conv => whnf) | (refine Wr.any ?_; conv => whnf))
  refine h.newK fun B w h => ?_
  conv => whnf
  repeat (first | (refine CW.run rfl ?_; conv => whnf) | (refine CW.go ?_; conv => whnf) | (refine Wr.any ?_; conv => whnf))
  refine CallF.val (in_any i β w _ h.f1) (Try.call60 _ _) fun w h => ?_
  replace h := h.f1
  conv => whnf
  repeat (first | (refine CW.run rfl ?_; conv => whnf) | (refine CW.go ?_; conv => whnf) | (refine Wr.any ?_; conv => whnf))
  refine sel_mk (fun h1 => ?_) (fun h1 => ?_)
  · have h1 : i < 0 ∨ (l.length : Int) ≤ i := by simp at h1; omega
    conv => whnf
    repeat (first | (refine CW.run rfl ?_; conv => whnf) | (refine CW.go ?_; conv => whnf) | (refine Wr.any ?_; conv => whnf))
    refine h.store 0 rfl rfl rfl rfl rfl ?_
    conv => whnf
    repeat (refine Wr.any ?_; conv => whnf)
    intro w h
    conv => whnf
    repeat (first | (refine CW.run rfl ?_; conv => whnf) | (refine CW.go ?_; conv => whnf) | (refine Wr.any ?_; conv => whnf))
    refine h.ldN 0 rfl _ rfl rfl ?_
    conv => whnf
    repeat (refine Wr.any ?_; conv => whnf)
    rw [rdN_out h1]
    exact ⟨rfl, h.tail⟩
  · have h1 : 0 ≤ i ∧ i < l.length := by simpa using h1
    have hlt : i.toNat < l.length := by omega
    have hx := List.getElem?_eq_getElem hlt
    obtain ⟨a, c, h⟩ := Sat.plain.1 h.f1
    conv => whnf
    repeat (first | (refine CW.run rfl ?_; conv => whnf) | (refine CW.go ?_; conv => whnf) | (refine Wr.any ?_; conv => whnf))
    refine h.ld 0 rfl rfl ?_
    conv => whnf
    repeat (first | (refine CW.run rfl ?_; conv => whnf) | (refine CW.go ?_; conv => whnf) | (refine Wr.any ?_; conv => whnf))
    refine Chk.mk ⟨by omega, by omega, (h.rds 1 rfl).okLt hlt⟩ ?_
    conv => whnf
    repeat (first | (refine CW.run rfl ?_; conv => whnf) | (refine CW.go ?_; conv => whnf) | (refine Wr.any ?_; conv => whnf))
    refine (h.rds 1 rfl).ldN (i := i.toNat) h hx rfl (by simp) ?_
    conv => whnf
    repeat (first | (refine CW.run rfl ?_; conv => whnf) | (refine CW.go ?_; conv => whnf) | (refine Wr.any ?_; conv => whnf))
    refine h.store 2 rfl rfl rfl rfl rfl ?_
    conv => whnf
    repeat (refine Wr.any ?_; conv => whnf)
    intro w h
    conv => whnf
    repeat (first | (refine CW.run rfl ?_; conv => whnf) | (refine CW.go ?_; conv => whnf) | (refine Wr.any ?_; conv => whnf))
    refine h.ldN 2 rfl _ rfl rfl ?_
    conv => whnf
    repeat (refine Wr.any ?_; conv => whnf)
    rw [rdN_in h1.1 hlt]
    exact ⟨rfl, Sat.plain.2 ⟨a, c, h.f2.tail⟩⟩
theorem write_any (i : Int) (v : Num) : ∀ β w As, Sat β w (Plain b l :: As) → Calls Try.prog 29 #[ptr b, .int .i64 i, vN v] w fun e w' => e = .returned (.int .i64 (wrN l i v).2) ∧ Sat β w' (Plain b (wrN l i v).1 :: As) := by
  intro β w As h
  refine calls_W (args := [ptr b, .int .i64 i, vN v]) Try.func29 rfl rfl rfl ?_
  conv => whnf
  repeat (first | (refine CW.run rfl ?_; conv => whnf) | (refine CW.go ?_; conv => whnf) | (refine Wr.any ?_; conv => whnf))
  refine h.newK fun B w h => ?_
  conv => whnf
  repeat (first | (refine CW.run rfl ?_; conv => whnf) | (refine CW.go ?_; conv => whnf) | (refine Wr.any ?_; conv => whnf))
  refine h.ldN 0 rfl _ rfl rfl ?_
  conv => whnf
  repeat (first | (refine CW.run rfl ?_; conv => whnf) | (refine CW.go ?_; conv => whnf) | (refine Wr.any ?_; conv => whnf))
  refine h.newK fun S w h => ?_
  conv => whnf
  repeat (first | (refine CW.run rfl ?_; conv => whnf) | (refine CW.go ?_; conv => whnf) | (refine Wr.any ?_; conv => whnf))
  have h := h.own_of (sz := 2) (enc := encN) [v] rfl (fun _ _ => rfl)
  refine CallF.val (gRight_any (l := [v]) (by simp) β w _ h (h.rds 0 rfl)) (Try.call55 _ _) fun w h => ?_
  replace h := h.tail
  have e1 : [v].all rightN = rightN v := by simp
  rw [e1]
  generalize e1 : rightN v = b1
  conv => whnf
  repeat (first | (refine CW.run rfl ?_; conv => whnf) | (refine CW.go ?_; conv => whnf) | (refine Wr.any ?_; conv => whnf))
  refine sel_mk (fun h1 => ?_) (fun h1 => ?_)
  · simp at h1; subst h1
    conv => whnf
    repeat (first | (refine CW.run rfl ?_; conv => whnf) | (refine CW.go ?_; conv => whnf) | (refine Wr.any ?_; conv => whnf))
    rw [wrN_wrong e1]
    exact ⟨rfl, h.tail⟩
  simp at h1; subst h1
  conv => whnf
  repeat (first | (refine CW.run rfl ?_; conv => whnf) | (refine CW.go ?_; conv => whnf) | (refine Wr.any ?_; conv => whnf))
  refine CallF.val (in_any i β w _ h.f1) (Try.call60 _ _) fun w h => ?_
  replace h := h.f1
  conv => whnf
  repeat (first | (refine CW.run rfl ?_; conv => whnf) | (refine CW.go ?_; conv => whnf) | (refine Wr.any ?_; conv => whnf))
  refine sel_mk (fun h1 => ?_) (fun h1 => ?_)
  · have h1 : i < 0 ∨ (l.length : Int) ≤ i := by simp at h1; omega
    conv => whnf
    repeat (first | (refine CW.run rfl ?_; conv => whnf) | (refine CW.go ?_; conv => whnf) | (refine Wr.any ?_; conv => whnf))
    rw [wrN_out e1 h1]
    exact ⟨rfl, h.tail⟩
  · have h1 : 0 ≤ i ∧ i < l.length := by simpa using h1
    have hlt : i.toNat < l.length := by omega
    rw [wrN_in e1 h1.1 h1.2]
    obtain ⟨a, c, h⟩ := Sat.plain.1 h.f1
    conv => whnf
    repeat (first | (refine CW.run rfl ?_; conv => whnf) | (refine CW.go ?_; conv => whnf) | (refine Wr.any ?_; conv => whnf))
    refine CW.draw [(0, 0), (1, 0), (2, 0), (3, 4), (4, 0), (5, 4), (6, 0), (7, 3)] rfl (by kernel_rfl) (fun _ => True) (fun w e1 e2 e3 e4 => ⟨trivial, ?_⟩)
    replace h := h.draw e1 e2 e3 e4
    clear e1 e2 e3 e4
    conv => whnf
    repeat (first | (refine CW.run rfl ?_; conv => whnf) | (refine CW.go ?_; conv => whnf) | (refine Wr.any ?_; conv => whnf))
    refine h.ld 0 rfl rfl ?_
    conv => whnf
    repeat (first | (refine CW.run rfl ?_; conv => whnf) | (refine CW.go ?_; conv => whnf) | (refine Wr.any ?_; conv => whnf))
    refine h.ldN 2 rfl _ rfl rfl ?_
    conv => whnf
    repeat (first | (refine CW.run rfl ?_; conv => whnf) | (refine CW.go ?_; conv => whnf) | (refine Wr.any ?_; conv => whnf))
    refine Chk.mk ⟨by omega, by omega, (h.rds 1 rfl).okLt hlt⟩ ?_
    conv => whnf
    repeat (first | (refine CW.run rfl ?_; conv => whnf) | (refine CW.go ?_; conv => whnf) | (refine Wr.any ?_; conv => whnf))
    refine h.storeOwn (j := i.toNat) 1 v rfl rfl rfl rfl rfl rfl hlt rfl ?_
    conv => whnf
    repeat (refine Wr.any ?_; conv => whnf)
    intro w h
    conv => whnf
    repeat (first | (refine CW.run rfl ?_; conv => whnf) | (refine CW.go ?_; conv => whnf) | (refine Wr.any ?_; conv => whnf))
    refine ⟨rfl, Sat.plain.2 ⟨a, c, ?_⟩⟩
    rw [List.length_set]
    exact h.f2.tail
theorem memAll_any (hl : l.length ≤ 4294967296) : ∀ β w As, Sat β w (Plain b l :: As) → Calls Try.prog 21 #[ptr b] w fun e w' => ∃ a c, e = .returned (.slice a l.length c) ∧ Sat β w' (Own 33 2 encN a c l :: Plain b l :: As) := by
  intro β w As h
  refine calls_W (args := [ptr b]) Try.func21 rfl rfl rfl ?_
  obtain ⟨a, c, h⟩ := Sat.plain.1 h
  conv => whnf
  repeat (first | (refine CW.run rfl ?_; conv => whnf) | (refine CW.go ?_; conv => whnf) | (refine Wr.any ?_; conv => whnf))
  refine h.ld 0 rfl rfl ?_
  conv => whnf
  repeat (first | (refine CW.run rfl ?_; conv => whnf) | (refine CW.go ?_; conv => whnf) | (refine Wr.any ?_; conv => whnf))
  refine CallF.ret (clone_any hl β w _ h (h.rds 1 rfl)) (Try.call56 _ _) ?_
  rintro _ w ⟨a', c', rfl, h⟩
  refine ⟨_, rfl, ?_⟩
  conv => whnf
  repeat (first | (refine CW.run rfl ?_; conv => whnf) | (refine CW.go ?_; conv => whnf) | (refine Wr.any ?_; conv => whnf))
  exact ⟨a', c', rfl, (Sat.plain.2 ⟨a, c, h.b2⟩).f1⟩
theorem memClone_any (hl : l.length ≤ 4294967296) : ∀ β w As, Sat β w (Plain b l :: As) → Calls Try.prog 26 #[ptr b] w fun e w' => ∃ B, e = .returned (ptr B) ∧ Sat β w' (Plain B l :: Plain b l :: As) := by
  intro β w As h
  refine calls_W (args := [ptr b]) Try.func26 rfl rfl rfl ?_
  obtain ⟨a, c, h⟩ := Sat.plain.1 h
  conv => whnf
  repeat (first | (refine CW.run rfl ?_; conv => whnf) | (refine CW.go ?_; conv => whnf) | (refine Wr.any ?_; conv => whnf))
  refine h.ld 0 rfl rfl ?_
  conv => whnf
  repeat (first | (refine CW.run rfl ?_; conv => whnf) | (refine CW.go ?_; conv => whnf) | (refine Wr.any ?_; conv => whnf))
  refine CallF.ret (clone_any hl β w _ h (h.rds 1 rfl)) (Try.call56 _ _) ?_
  rintro _ w ⟨a', c', rfl, h⟩
  refine ⟨_, rfl, ?_⟩
  conv => whnf
  repeat (first | (refine CW.run rfl ?_; conv => whnf) | (refine CW.go ?_; conv => whnf) | (refine Wr.any ?_; conv => whnf))
  refine h.newK fun B w h => ?_
  conv => whnf
  repeat (first | (refine CW.run rfl ?_; conv => whnf) | (refine CW.go ?_; conv => whnf) | (refine Wr.any ?_; conv => whnf))
  refine ⟨B, rfl, ?_⟩
  have h := (Sat.plain.2 ⟨a', c', h⟩)
  exact (Sat.plain.2 ⟨a, c, h.b2⟩).f1
end
end Go.Ev
