/- Any memory behind an interface value; one that stops; a part of one. Conditions: none. -/
import Derived.Test.YtfhfpklefgjeoaaMemA
namespace Go.Ev
open Go Go.Proofs
set_option maxRecDepth 10000

/-- What a memory does. -/
structure MemP {σ : Type} (T : Nat) (u : Value) (R : σ → Asrt) (rd : σ → Int → (Num × Int) × σ) (wr : σ → Int → Num → Int × σ) (sz : σ → Int) : Prop where
  size : ∀ β w As s (K : Value → World → Prop), Sat β w (R s :: As) → (∀ w', Sat β w' (R s :: As) → K (.int .i64 (sz s)) w') → CallM Try.prog (.iface T u) "Size" [] w K
  read : ∀ β w As s i (K : Value → World → Prop), Sat β w (R s :: As) → (∀ w', Sat β w' (R (rd s i).2 :: As) → K (.tuple #[vN (rd s i).1.1, .int .i64 (rd s i).1.2]) w') → CallM Try.prog (.iface T u) "Read" [.int .i64 i] w K
  write : ∀ β w As s i v (K : Value → World → Prop), Sat β w (R s :: As) → (∀ w', Sat β w' (R (wr s i v).2 :: As) → K (.int .i64 (wr s i v).1) w') → CallM Try.prog (.iface T u) "Write" [.int .i64 i, vN v] w K

theorem mPlainSize (u : Value) (w : World) : (callMethod (.iface 26 u) "Size" #[]).run Try.prog w = .ok (.enter 31 #[u]) w := by kernel_rfl
theorem mPlainRead (u x : Value) (w : World) : (callMethod (.iface 26 u) "Read" #[x]).run Try.prog w = .ok (.enter 30 #[u, x]) w := by kernel_rfl
theorem mPlainWrite (u x y : Value) (w : World) : (callMethod (.iface 26 u) "Write" #[x, y]).run Try.prog w = .ok (.enter 29 #[u, x, y]) w := by kernel_rfl
theorem mFusedSize (u : Value) (w : World) : (callMethod (.iface 30 u) "Size" #[]).run Try.prog w = .ok (.enter 23 #[u]) w := by kernel_rfl
theorem mFusedRead (u x : Value) (w : World) : (callMethod (.iface 30 u) "Read" #[x]).run Try.prog w = .ok (.enter 20 #[u, x]) w := by kernel_rfl
theorem mFusedWrite (u x y : Value) (w : World) : (callMethod (.iface 30 u) "Write" #[x, y]).run Try.prog w = .ok (.enter 19 #[u, x, y]) w := by kernel_rfl

def rdP (l : List Num) (i : Int) : (Num × Int) × List Num := (rdN l i, l)
def wrP (l : List Num) (i : Int) (v : Num) : Int × List Num := ((wrN l i v).2, (wrN l i v).1)
def szP (l : List Num) : Int := l.length
theorem plainMem (b : Nat) : MemP 26 (ptr b) (Plain b) rdP wrP szP where
  size := fun β w As s K h k => CallM.fn (mPlainSize _ _) (Try.call31 _ _) (CallF.val (size_any β w As h) (Try.call31 _ _) k)
  read := fun β w As s i K h k => CallM.fn (mPlainRead _ _ _) (Try.call30 _ _) (CallF.val (read_any i β w As h) (Try.call30 _ _) k)
  write := fun β w As s i v K h k => CallM.fn (mPlainWrite _ _ _ _) (Try.call29 _ _) (CallF.val (write_any i v β w As h) (Try.call29 _ _) k)

section
variable {σ : Type} {T : Nat} {u : Value} {R : σ → Asrt} {rd : σ → Int → (Num × Int) × σ} {wr : σ → Int → Num → Int × σ} {sz : σ → Int} {β w : World} {As : List Asrt} {b : Nat} {n : Nat} {s : σ}

def Fused (b T : Nat) (u : Value) (R : σ → Asrt) (x : Nat × σ) : Asrt := St2 (Pu (x.1 ≤ 9223372036854775807)) (St2 (row b 99 [.iface T u, .int .i64 x.1]) (R x.2))
theorem Sat.fused {x : Nat × σ} : Sat β w (Fused b T u R x :: As) ↔ x.1 ≤ 9223372036854775807 ∧ Sat β w (row b 99 [.iface T u, .int .i64 x.1] :: R x.2 :: As) := by
  unfold Fused
  rw [Sat.star, Sat.pu, Sat.star]
def rdF (rd : σ → Int → (Num × Int) × σ) (x : Nat × σ) (i : Int) : (Num × Int) × (Nat × σ) := if x.1 = 0 then (((0, 0), 41), x) else ((rd x.2 i).1, (x.1 - 1, (rd x.2 i).2))
def wrF (wr : σ → Int → Num → Int × σ) (x : Nat × σ) (i : Int) (v : Num) : Int × (Nat × σ) := if x.1 = 0 then (41, x) else ((wr x.2 i v).1, (x.1 - 1, (wr x.2 i v).2))
def szF (sz : σ → Int) (x : Nat × σ) : Int := sz x.2

theorem fuse_any (m : Int) (hm : m ≤ 9223372036854775807) : ∀ β w As, Sat β w (R s :: As) → Calls Try.prog 17 #[.iface T u, .int .i64 m] w fun e w' => ∃ b, e = .returned (ptr b) ∧ Sat β w' (Fused b T u R (m.toNat, s) :: As) := by
  intro β w As h
  refine calls_W (args := [.iface T u, .int .i64 m]) Try.func17 rfl rfl rfl ?_
  have e : (if m < 0 then 0 else m) = (m.toNat : Int) := by split <;> omega
  conv => whnf
  repeat (first | (refine CW.run rfl ?_; conv => whnf) | (refine CW.go ?_; conv => whnf) | (refine Wr.any ?_; conv => whnf))
  refine h.newK fun b w h => ?_
  conv => whnf
  repeat (first | (refine CW.run rfl ?_; conv => whnf) | (refine CW.go ?_; conv => whnf) | (refine Wr.any ?_; conv => whnf))
  refine ⟨b, rfl, Sat.fused.2 ⟨by show m.toNat ≤ _; omega, ?_⟩⟩
  show Sat β w (row b _ [.iface T u, .int .i64 (m.toNat : Int)] :: _)
  rw [← e]; exact h
theorem spent_any : ∀ β w As, Sat β w (Fused b T u R (n, s) :: As) → Calls Try.prog 59 #[ptr b] w fun e w' => e = .returned (.bool (decide (n = 0))) ∧ Sat β w' (Fused b T u R (n - 1, s) :: As) := by
  intro β w As h
  refine calls_W (args := [ptr b]) Try.func59 rfl rfl rfl ?_
  obtain ⟨hn, h⟩ := Sat.fused.1 h
  conv => whnf
  repeat (first | (refine CW.run rfl ?_; conv => whnf) | (refine CW.go ?_; conv => whnf) | (refine Wr.any ?_; conv => whnf))
  refine h.ld 0 rfl rfl ?_
  conv => whnf
  repeat (first | (refine CW.run rfl ?_; conv => whnf) | (refine CW.go ?_; conv => whnf) | (refine Wr.any ?_; conv => whnf))
  refine h.ld 0 rfl rfl ?_
  conv => whnf
  repeat (first | (refine CW.run rfl ?_; conv => whnf) | (refine CW.go ?_; conv => whnf) | (refine Wr.any ?_; conv => whnf))
  refine sel_mk (fun h1 => ?_) (fun h1 => ?_)
  · obtain rfl : n = 0 := by simpa using h1
    conv => whnf
    repeat (first | (refine CW.run rfl ?_; conv => whnf) | (refine CW.go ?_; conv => whnf) | (refine Wr.any ?_; conv => whnf))
    exact ⟨rfl, Sat.fused.2 ⟨hn, h⟩⟩
  · have h1 : n ≠ 0 := by simpa using h1
    have hn' : n ≤ 9223372036854775807 := hn
    conv => whnf
    repeat (first | (refine CW.run rfl ?_; conv => whnf) | (refine CW.go ?_; conv => whnf) | (refine Wr.any ?_; conv => whnf))
    refine h.ld 0 rfl rfl ?_
    conv => whnf
    repeat (first | (refine CW.run rfl ?_; conv => whnf) | (refine CW.go ?_; conv => whnf) | (refine Wr.any ?_; conv => whnf))
    rw [wr64 (n := (n : Int) - 1) (by omega) (by omega), show (n : Int) - 1 = ((n - 1 : Nat) : Int) by omega]
    refine h.store 0 rfl rfl rfl rfl rfl ?_
    conv => whnf
    repeat (refine Wr.any ?_; conv => whnf)
    intro w h
    conv => whnf
    repeat (first | (refine CW.run rfl ?_; conv => whnf) | (refine CW.go ?_; conv => whnf) | (refine Wr.any ?_; conv => whnf))
    exact ⟨retB (by simp [h1]), Sat.fused.2 ⟨by show n - 1 ≤ _; omega, h⟩⟩

variable (M : MemP T u R rd wr sz)
include M
theorem fsize_any {x : Nat × σ} : ∀ β w As, Sat β w (Fused b T u R x :: As) → Calls Try.prog 23 #[ptr b] w fun e w' => e = .returned (.int .i64 (szF sz x)) ∧ Sat β w' (Fused b T u R x :: As) := by
  intro β w As h
  refine calls_W (args := [ptr b]) Try.func23 rfl rfl rfl ?_
  obtain ⟨hn, h⟩ := Sat.fused.1 h
  conv => whnf
  repeat (first | (refine CW.run rfl ?_; conv => whnf) | (refine CW.go ?_; conv => whnf) | (refine Wr.any ?_; conv => whnf))
  refine h.ld 0 rfl rfl ?_
  conv => whnf
  repeat (first | (refine CW.run rfl ?_; conv => whnf) | (refine CW.go ?_; conv => whnf) | (refine Wr.any ?_; conv => whnf))
  refine h.ld 0 rfl rfl ?_
  conv => whnf
  repeat (first | (refine CW.run rfl ?_; conv => whnf) | (refine CW.go ?_; conv => whnf) | (refine Wr.any ?_; conv => whnf))
  refine M.size β w _ x.2 _ h.f1 fun w h => ?_
  conv => whnf
  repeat (first | (refine CW.run rfl ?_; conv => whnf) | (refine CW.go ?_; conv => whnf) | (refine Wr.any ?_; conv => whnf))
  exact ⟨rfl, Sat.fused.2 ⟨hn, h.f1⟩⟩
theorem fread_any {x : Nat × σ} (i : Int) : ∀ β w As, Sat β w (Fused b T u R x :: As) → Calls Try.prog 20 #[ptr b, .int .i64 i] w fun e w' => e = .returned (.tuple #[vN (rdF rd x i).1.1, .int .i64 (rdF rd x i).1.2]) ∧ Sat β w' (Fused b T u R (rdF rd x i).2 :: As) := by
  intro β w As h
  obtain ⟨n, s⟩ := x
  refine calls_W (args := [ptr b, .int .i64 i]) Try.func20 rfl rfl rfl ?_
  conv => whnf
  repeat (first | (refine CW.run rfl ?_; conv => whnf) | (refine CW.go ?_; conv => whnf) | (refine Wr.any ?_; conv => whnf))
  refine h.newK fun B w h => ?_
  conv => whnf
  repeat (first | (refine CW.run rfl ?_; conv => whnf) | (refine CW.go ?_; conv => whnf) | (refine Wr.any ?_; conv => whnf))
  refine CallF.val (spent_any β w _ h.f1) (Try.call59 _ _) fun w h => ?_
  replace h := h.f1
  conv => whnf
  repeat (first | (refine CW.run rfl ?_; conv => whnf) | (refine CW.go ?_; conv => whnf) | (refine Wr.any ?_; conv => whnf))
  refine sel_mk (fun h1 => ?_) (fun h1 => ?_)
  · obtain rfl : n = 0 := by simpa using h1
    conv => whnf
    repeat (first | (refine CW.run rfl ?_; conv => whnf) | (refine CW.go ?_; conv => whnf) | (refine Wr.any ?_; conv => whnf))
    refine h.store 0 rfl rfl rfl rfl rfl ?_
    conv => whnf
    repeat (refine Wr.any ?_; conv => whnf)
    intro w h
    conv => whnf
    repeat (first | (refine CW.run rfl ?_; conv => whnf) | (refine CW.go ?_; conv => whnf) | (refine Wr.any ?_; conv => whnf))
    refine h.ldN 0 rfl _ rfl rfl ?_
    conv => whnf
    repeat (refine Wr.any ?_; conv => whnf)
    exact ⟨rfl, h.tail⟩
  · have h1 : n ≠ 0 := by simpa using h1
    have e : rdF rd (n, s) i = ((rd s i).1, (n - 1, (rd s i).2)) := by unfold rdF; rw [if_neg h1]
    rw [e]
    obtain ⟨hn, h⟩ := Sat.fused.1 h.f1
    conv => whnf
    repeat (first | (refine CW.run rfl ?_; conv => whnf) | (refine CW.go ?_; conv => whnf) | (refine Wr.any ?_; conv => whnf))
    refine h.ld 0 rfl rfl ?_
    conv => whnf
    repeat (first | (refine CW.run rfl ?_; conv => whnf) | (refine CW.go ?_; conv => whnf) | (refine Wr.any ?_; conv => whnf))
    refine M.read β w _ s i _ h.f1 fun w h => ?_
    conv => whnf
    repeat (first | (refine CW.run rfl ?_; conv => whnf) | (refine CW.go ?_; conv => whnf) | (refine Wr.any ?_; conv => whnf))
    refine h.store 2 rfl rfl rfl rfl rfl ?_
    conv => whnf
    repeat (refine Wr.any ?_; conv => whnf)
    intro w h
    conv => whnf
    repeat (first | (refine CW.run rfl ?_; conv => whnf) | (refine CW.go ?_; conv => whnf) | (refine Wr.any ?_; conv => whnf))
    refine h.ldN 2 rfl _ rfl rfl ?_
    conv => whnf
    repeat (refine Wr.any ?_; conv => whnf)
    exact ⟨rfl, Sat.fused.2 ⟨hn, h.f2.tail.f1⟩⟩
theorem fwrite_any {x : Nat × σ} (i : Int) (v : Num) : ∀ β w As, Sat β w (Fused b T u R x :: As) → Calls Try.prog 19 #[ptr b, .int .i64 i, vN v] w fun e w' => e = .returned (.int .i64 (wrF wr x i v).1) ∧ Sat β w' (Fused b T u R (wrF wr x i v).2 :: As) := by
  intro β w As h
  obtain ⟨n, s⟩ := x
  refine calls_W (args := [ptr b, .int .i64 i, vN v]) Try.func19 rfl rfl rfl ?_
  conv => whnf
  repeat (first | (refine CW.run rfl ?_; conv => whnf) | (refine CW.go ?_; conv => whnf) | (refine Wr.any ?_; conv => whnf))
  refine h.newK fun B w h => ?_
  conv => whnf
  repeat (first | (refine CW.run rfl ?_; conv => whnf) | (refine CW.go ?_; conv => whnf) | (refine Wr.any ?_; conv => whnf))
  refine CallF.val (spent_any β w _ h.f1) (Try.call59 _ _) fun w h => ?_
  replace h := h.f1
  conv => whnf
  repeat (first | (refine CW.run rfl ?_; conv => whnf) | (refine CW.go ?_; conv => whnf) | (refine Wr.any ?_; conv => whnf))
  refine sel_mk (fun h1 => ?_) (fun h1 => ?_)
  · obtain rfl : n = 0 := by simpa using h1
    conv => whnf
    repeat (first | (refine CW.run rfl ?_; conv => whnf) | (refine CW.go ?_; conv => whnf) | (refine Wr.any ?_; conv => whnf))
    exact ⟨rfl, h.tail⟩
  · have h1 : n ≠ 0 := by simpa using h1
    have e : wrF wr (n, s) i v = ((wr s i v).1, (n - 1, (wr s i v).2)) := by unfold wrF; rw [if_neg h1]
    rw [e]
    obtain ⟨hn, h⟩ := Sat.fused.1 h.f1
    conv => whnf
    repeat (first | (refine CW.run rfl ?_; conv => whnf) | (refine CW.go ?_; conv => whnf) | (refine Wr.any ?_; conv => whnf))
    refine CW.draw [(0, 0), (1, 0), (2, 0), (3, 4), (4, 0), (5, 4), (6, 3), (7, 0)] rfl (by kernel_rfl) (fun _ => True) (fun w e1 e2 e3 e4 => ⟨trivial, ?_⟩)
    replace h := h.draw e1 e2 e3 e4
    clear e1 e2 e3 e4
    conv => whnf
    repeat (first | (refine CW.run rfl ?_; conv => whnf) | (refine CW.go ?_; conv => whnf) | (refine Wr.any ?_; conv => whnf))
    refine h.ld 0 rfl rfl ?_
    conv => whnf
    repeat (first | (refine CW.run rfl ?_; conv => whnf) | (refine CW.go ?_; conv => whnf) | (refine Wr.any ?_; conv => whnf))
    refine h.ldN 2 rfl _ rfl rfl ?_
    conv => whnf
    repeat (first | (refine CW.run rfl ?_; conv => whnf) | (refine CW.go ?_; conv => whnf) | (refine Wr.any ?_; conv => whnf))
    refine M.write β w _ s i v _ h.f1 fun w h => ?_
    conv => whnf
    repeat (first | (refine CW.run rfl ?_; conv => whnf) | (refine CW.go ?_; conv => whnf) | (refine Wr.any ?_; conv => whnf))
    exact ⟨rfl, Sat.fused.2 ⟨hn, h.f2.tail.f1⟩⟩
theorem fusedMem (b : Nat) : MemP 30 (ptr b) (Fused b T u R) (rdF rd) (wrF wr) (szF sz) where
  size := fun β w As s K h k => CallM.fn (mFusedSize _ _) (Try.call23 _ _) (CallF.val (fsize_any M β w As h) (Try.call23 _ _) k)
  read := fun β w As s i K h k => CallM.fn (mFusedRead _ _ _) (Try.call20 _ _) (CallF.val (fread_any M i β w As h) (Try.call20 _ _) k)
  write := fun β w As s i v K h k => CallM.fn (mFusedWrite _ _ _ _) (Try.call19 _ _) (CallF.val (fwrite_any M i v β w As h) (Try.call19 _ _) k)
end
theorem left_any {σ : Type} {T b : Nat} {u : Value} {R : σ → Asrt} {x : Nat × σ} : ∀ β w As, Sat β w (Fused b T u R x :: As) → Calls Try.prog 22 #[ptr b] w fun e w' => e = .returned (.int .i64 x.1) ∧ Sat β w' (Fused b T u R x :: As) := by
  intro β w As h
  refine calls_W (args := [ptr b]) Try.func22 rfl rfl rfl ?_
  obtain ⟨hn, h⟩ := Sat.fused.1 h
  conv => whnf
  repeat (first | (refine CW.run rfl ?_; conv => whnf) | (refine CW.go ?_; conv => whnf) | (refine Wr.any ?_; conv => whnf))
  refine h.ld 0 rfl rfl ?_
  conv => whnf
  repeat (first | (refine CW.run rfl ?_; conv => whnf) | (refine CW.go ?_; conv => whnf) | (refine Wr.any ?_; conv => whnf))
  exact ⟨rfl, Sat.fused.2 ⟨hn, h⟩⟩
end Go.Ev
