/- A part of a memory. Conditions: none. -/
import Derived.Test.YtfhfpklefgjeoaaMemB
namespace Go.Ev
open Go Go.Proofs
set_option maxRecDepth 10000

theorem mWindowSize (u : Value) (w : World) : (callMethod (.iface 46 u) "Size" #[]).run Try.prog w = .ok (.enter 32 #[u]) w := by kernel_rfl
theorem mWindowRead (u x : Value) (w : World) : (callMethod (.iface 46 u) "Read" #[x]).run Try.prog w = .ok (.enter 28 #[u, x]) w := by kernel_rfl
theorem mWindowWrite (u x y : Value) (w : World) : (callMethod (.iface 46 u) "Write" #[x, y]).run Try.prog w = .ok (.enter 27 #[u, x, y]) w := by kernel_rfl

section
variable {σ : Type} {T : Nat} {u : Value} {R : σ → Asrt} {rd : σ → Int → (Num × Int) × σ} {wr : σ → Int → Num → Int × σ} {sz : σ → Int} {β w : World} {As : List Asrt} {b : Nat} {f n : Int} {s : σ}

def winR (b T : Nat) (u : Value) (f n : Int) : Asrt := row b 104 [.iface T u, .int .i64 f, .int .i64 n]
def Win (b T : Nat) (u : Value) (f n : Int) (R : σ → Asrt) (s : σ) : Asrt := St2 (winR b T u f n) (R s)
def rdW (rd : σ → Int → (Num × Int) × σ) (f n : Int) (s : σ) (i : Int) : (Num × Int) × σ := if 0 ≤ i ∧ i < n then rd s (f + i) else (((0, 0), 2), s)
def wrW (wr : σ → Int → Num → Int × σ) (f n : Int) (s : σ) (i : Int) (v : Num) : Int × σ := if rightN v then (if 0 ≤ i ∧ i < n then wr s (f + i) v else (2, s)) else (1, s)

theorem wsize_any : ∀ β w As, Sat β w (winR b T u f n :: As) → Calls Try.prog 32 #[ptr b] w fun e w' => e = .returned (.int .i64 n) ∧ Sat β w' (winR b T u f n :: As) := by
  intro β w As h
  refine calls_W (args := [ptr b]) Try.func32 rfl rfl rfl ?_
  conv => whnf
  repeat (first | (refine CW.run rfl ?_; conv => whnf) | (refine CW.go ?_; conv => whnf) | (refine Wr.any ?_; conv => whnf))
  refine h.ld 0 rfl rfl ?_
  conv => whnf
  repeat (first | (refine CW.run rfl ?_; conv => whnf) | (refine CW.go ?_; conv => whnf) | (refine Wr.any ?_; conv => whnf))
  exact ⟨rfl, h⟩

variable (M : MemP T u R rd wr sz)
include M
theorem wread_any (i : Int) (hf : 0 ≤ f) (hn : f + n ≤ 9223372036854775807) : ∀ β w As, Sat β w (winR b T u f n :: R s :: As) → Calls Try.prog 28 #[ptr b, .int .i64 i] w fun e w' => e = .returned (.tuple #[vN (rdW rd f n s i).1.1, .int .i64 (rdW rd f n s i).1.2]) ∧ Sat β w' (winR b T u f n :: R (rdW rd f n s i).2 :: As) := by
  intro β w As h
  refine calls_W (args := [ptr b, .int .i64 i]) Try.func28 rfl rfl rfl ?_
  conv => whnf
  repeat (first | (refine CW.run rfl ?_; conv => whnf) | (refine CW.go ?_; conv => whnf) | (refine Wr.any ?_; conv => whnf))
  refine h.newK fun B w h => ?_
  conv => whnf
  repeat (first | (refine CW.run rfl ?_; conv => whnf) | (refine CW.go ?_; conv => whnf) | (refine Wr.any ?_; conv => whnf))
  refine sel_mk (fun h1 => ?_) (fun h1 => ?_)
  · have e : rdW rd f n s i = (((0, 0), 2), s) := by unfold rdW; rw [if_neg (by simp at h1; omega)]
    conv => whnf
    repeat (first | (refine CW.run rfl ?_; conv => whnf) | (refine CW.go ?_; conv => whnf) | (refine Wr.any ?_; conv => whnf))
    refine h.store 0 rfl rfl rfl rfl rfl ?_
    conv => whnf
    repeat (refine Wr.any ?_; conv => whnf)
    intro w h
    conv => whnf
    repeat (first | (refine CW.run rfl ?_; conv => whnf) | (refine CW.go ?_; conv => whnf) | (refine Wr.any ?_; conv => whnf))
    refine h.ldN 0 rfl _ rfl rfl ?_
    conv => whnf
    repeat (refine Wr.any ?_; conv => whnf)
    rw [e]
    exact ⟨rfl, h.tail⟩
  conv => whnf
  repeat (first | (refine CW.run rfl ?_; conv => whnf) | (refine CW.go ?_; conv => whnf) | (refine Wr.any ?_; conv => whnf))
  refine CallF.val (wsize_any β w _ h.f1) (Try.call32 _ _) fun w h => ?_
  replace h := h.f1
  conv => whnf
  repeat (first | (refine CW.run rfl ?_; conv => whnf) | (refine CW.go ?_; conv => whnf) | (refine Wr.any ?_; conv => whnf))
  refine sel_mk (fun h2 => ?_) (fun h2 => ?_)
  · have e : rdW rd f n s i = (((0, 0), 2), s) := by unfold rdW; rw [if_neg (by simp at h2; omega)]
    conv => whnf
    repeat (first | (refine CW.run rfl ?_; conv => whnf) | (refine CW.go ?_; conv => whnf) | (refine Wr.any ?_; conv => whnf))
    refine h.store 0 rfl rfl rfl rfl rfl ?_
    conv => whnf
    repeat (refine Wr.any ?_; conv => whnf)
    intro w h
    conv => whnf
    repeat (first | (refine CW.run rfl ?_; conv => whnf) | (refine CW.go ?_; conv => whnf) | (refine Wr.any ?_; conv => whnf))
    refine h.ldN 0 rfl _ rfl rfl ?_
    conv => whnf
    repeat (refine Wr.any ?_; conv => whnf)
    rw [e]
    exact ⟨rfl, h.tail⟩
  simp at h1 h2
  have e : rdW rd f n s i = rd s (f + i) := by unfold rdW; rw [if_pos (by omega)]
  rw [e]
  conv => whnf
  repeat (first | (refine CW.run rfl ?_; conv => whnf) | (refine CW.go ?_; conv => whnf) | (refine Wr.any ?_; conv => whnf))
  refine CW.draw (id := 3) [(0, 0), (1, 0), (2, 0), (3, 4), (4, 0), (5, 0), (6, 0), (7, 4), (8, 0), (9, 0), (10, 0), (11, 0), (12, 3), (13, 0), (14, 0), (15, 3), (16, 0)] rfl (by kernel_rfl) (fun _ => True) (fun w e1 e2 e3 e4 => ⟨trivial, ?_⟩)
  replace h := h.draw e1 e2 e3 e4
  clear e1 e2 e3 e4
  conv => whnf
  repeat (first | (refine CW.run rfl ?_; conv => whnf) | (refine CW.go ?_; conv => whnf) | (refine Wr.any ?_; conv => whnf))
  refine h.ld 1 rfl rfl ?_
  conv => whnf
  repeat (first | (refine CW.run rfl ?_; conv => whnf) | (refine CW.go ?_; conv => whnf) | (refine Wr.any ?_; conv => whnf))
  refine h.ld 1 rfl rfl ?_
  conv => whnf
  repeat (first | (refine CW.run rfl ?_; conv => whnf) | (refine CW.go ?_; conv => whnf) | (refine Wr.any ?_; conv => whnf))
  rw [wr64 (n := f + i) (by omega) (by omega)]
  refine M.read β w _ s _ _ h.f2 fun w h => ?_
  replace h := h.f1
  conv => whnf
  repeat (first | (refine CW.run rfl ?_; conv => whnf) | (refine CW.go ?_; conv => whnf) | (refine Wr.any ?_; conv => whnf))
  refine h.store 0 rfl rfl rfl rfl rfl ?_
  conv => whnf
  repeat (refine Wr.any ?_; conv => whnf)
  intro w h
  conv => whnf
  repeat (first | (refine CW.run rfl ?_; conv => whnf) | (refine CW.go ?_; conv => whnf) | (refine Wr.any ?_; conv => whnf))
  refine h.ldN 0 rfl _ rfl rfl ?_
  conv => whnf
  repeat (refine Wr.any ?_; conv => whnf)
  exact ⟨rfl, h.tail.f1⟩
theorem wwrite_any (i : Int) (v : Num) (hf : 0 ≤ f) (hn : f + n ≤ 9223372036854775807) : ∀ β w As, Sat β w (winR b T u f n :: R s :: As) → Calls Try.prog 27 #[ptr b, .int .i64 i, vN v] w fun e w' => e = .returned (.int .i64 (wrW wr f n s i v).1) ∧ Sat β w' (winR b T u f n :: R (wrW wr f n s i v).2 :: As) := by
  intro β w As h
  refine calls_W (args := [ptr b, .int .i64 i, vN v]) Try.func27 rfl rfl rfl ?_
  conv => whnf
  repeat (first | (refine CW.run rfl ?_; conv => whnf) | (refine CW.go ?_; conv => whnf) | (refine Wr.any ?_; conv => whnf))
  refine h.newK fun B w h => ?_
  conv => whnf
  repeat (first | (refine CW.run rfl ?_; conv => whnf) | (refine CW.go ?_; conv => whnf) | (refine Wr.any ?_; conv => whnf))
  refine h.ldN 0 rfl _ rfl rfl ?_
  conv => whnf
  repeat (first | (refine CW.run rfl ?_; conv => whnf) | (refine CW.go ?_; conv => whnf) | (refine Wr.any ?_; conv => whnf))
  refine h.newK fun S w h => ?_
  conv => whnf
  repeat (first | (refine CW.run rfl ?_; conv => whnf) | (refine CW.go ?_; conv => whnf) | (refine Wr.any ?_; conv => whnf))
  have h := h.own_of (sz := 2) (enc := encN) [v] rfl (fun _ _ => rfl)
  refine CallF.val (gRight_any (l := [v]) (by simp) β w _ h (h.rds 0 rfl)) (Try.call55 _ _) fun w h => ?_
  replace h := h.tail
  have e1 : [v].all rightN = rightN v := by simp
  rw [e1]
  generalize e1 : rightN v = b1
  conv => whnf
  repeat (first | (refine CW.run rfl ?_; conv => whnf) | (refine CW.go ?_; conv => whnf) | (refine Wr.any ?_; conv => whnf))
  refine sel_mk (fun h1 => ?_) (fun h1 => ?_)
  · simp at h1; subst h1
    have e : wrW wr f n s i v = (1, s) := by unfold wrW; rw [e1]; rfl
    conv => whnf
    repeat (first | (refine CW.run rfl ?_; conv => whnf) | (refine CW.go ?_; conv => whnf) | (refine Wr.any ?_; conv => whnf))
    rw [e]
    exact ⟨rfl, h.tail⟩
  simp at h1; subst h1
  conv => whnf
  repeat (first | (refine CW.run rfl ?_; conv => whnf) | (refine CW.go ?_; conv => whnf) | (refine Wr.any ?_; conv => whnf))
  refine sel_mk (fun h1 => ?_) (fun h1 => ?_)
  · have e : wrW wr f n s i v = (2, s) := by unfold wrW; rw [if_pos e1, if_neg (by simp at h1; omega)]
    conv => whnf
    repeat (first | (refine CW.run rfl ?_; conv => whnf) | (refine CW.go ?_; conv => whnf) | (refine Wr.any ?_; conv => whnf))
    rw [e]
    exact ⟨rfl, h.tail⟩
  conv => whnf
  repeat (first | (refine CW.run rfl ?_; conv => whnf) | (refine CW.go ?_; conv => whnf) | (refine Wr.any ?_; conv => whnf))
  refine CallF.val (wsize_any β w _ h.f1) (Try.call32 _ _) fun w h => ?_
  replace h := h.f1
  conv => whnf
  repeat (first | (refine CW.run rfl ?_; conv => whnf) | (refine CW.go ?_; conv => whnf) | (refine Wr.any ?_; conv => whnf))
  refine sel_mk (fun h2 => ?_) (fun h2 => ?_)
  · have e : wrW wr f n s i v = (2, s) := by unfold wrW; rw [if_pos e1, if_neg (by simp at h2; omega)]
    conv => whnf
    repeat (first | (refine CW.run rfl ?_; conv => whnf) | (refine CW.go ?_; conv => whnf) | (refine Wr.any ?_; conv => whnf))
    rw [e]
    exact ⟨rfl, h.tail⟩
  simp at h1 h2
  have e : wrW wr f n s i v = wr s (f + i) v := by unfold wrW; rw [if_pos e1, if_pos (by omega)]
  rw [e]
  conv => whnf
  repeat (first | (refine CW.run rfl ?_; conv => whnf) | (refine CW.go ?_; conv => whnf) | (refine Wr.any ?_; conv => whnf))
  refine CW.draw (id := 5) [(0, 0), (1, 0), (2, 0), (3, 4), (4, 0), (5, 0), (6, 0), (7, 4), (8, 0), (9, 0), (10, 4), (11, 0), (12, 0), (13, 3), (14, 0)] rfl (by kernel_rfl) (fun _ => True) (fun w e1 e2 e3 e4 => ⟨trivial, ?_⟩)
  replace h := h.draw e1 e2 e3 e4
  clear e1 e2 e3 e4
  conv => whnf
  repeat (first | (refine CW.run rfl ?_; conv => whnf) | (refine CW.go ?_; conv => whnf) | (refine Wr.any ?_; conv => whnf))
  refine h.ld 1 rfl rfl ?_
  conv => whnf
  repeat (first | (refine CW.run rfl ?_; conv => whnf) | (refine CW.go ?_; conv => whnf) | (refine Wr.any ?_; conv => whnf))
  refine h.ld 1 rfl rfl ?_
  conv => whnf
  repeat (first | (refine CW.run rfl ?_; conv => whnf) | (refine CW.go ?_; conv => whnf) | (refine Wr.any ?_; conv => whnf))
  refine h.ldN 0 rfl _ rfl rfl ?_
  conv => whnf
  repeat (first | (refine CW.run rfl ?_; conv => whnf) | (refine CW.go ?_; conv => whnf) | (refine Wr.any ?_; conv => whnf))
  rw [wr64 (n := f + i) (by omega) (by omega)]
  refine M.write β w _ s _ v _ h.f2 fun w h => ?_
  replace h := h.f1
  conv => whnf
  repeat (first | (refine CW.run rfl ?_; conv => whnf) | (refine CW.go ?_; conv => whnf) | (refine Wr.any ?_; conv => whnf))
  exact ⟨rfl, h.tail.f1⟩
theorem windowMem (b : Nat) (hf : 0 ≤ f) (hn : f + n ≤ 9223372036854775807) : MemP 46 (ptr b) (Win b T u f n R) (rdW rd f n) (wrW wr f n) (fun _ => n) where
  size := fun β w As s K h k => CallM.fn (mWindowSize _ _) (Try.call32 _ _) (CallF.val (wsize_any β w _ (Sat.star.1 h)) (Try.call32 _ _) fun w h => k w (Sat.star.2 h))
  read := fun β w As s i K h k => CallM.fn (mWindowRead _ _ _) (Try.call28 _ _) (CallF.val (wread_any M i hf hn β w As (Sat.star.1 h)) (Try.call28 _ _) fun w h => k w (Sat.star.2 h))
  write := fun β w As s i v K h k => CallM.fn (mWindowWrite _ _ _ _) (Try.call27 _ _) (CallF.val (wwrite_any M i v hf hn β w As (Sat.star.1 h)) (Try.call27 _ _) fun w h => k w (Sat.star.2 h))

/-- Whether a part may be. -/
def partB (sz f n : Int) : Bool := decide (0 ≤ f ∧ 0 ≤ n ∧ n ≤ sz - f)
theorem part_any (hf : okI f) (hs : 0 ≤ sz s ∧ sz s ≤ 9223372036854775807) : ∀ β w As, Sat β w (R s :: As) → Calls Try.prog 25 #[.iface T u, .int .i64 f, .int .i64 n] w fun e w' =>
    (partB (sz s) f n = true ∧ ∃ b, e = .returned (.tuple #[ptr b, .int .i64 0]) ∧ Sat β w' (winR b T u f n :: R s :: As)) ∨ (partB (sz s) f n = false ∧ e = .returned (.tuple #[.pointer none, .int .i64 1]) ∧ Sat β w' (R s :: As)) := by
  intro β w As h
  refine calls_W (args := [.iface T u, .int .i64 f, .int .i64 n]) Try.func25 rfl rfl rfl ?_
  conv => whnf
  repeat (first | (refine CW.run rfl ?_; conv => whnf) | (refine CW.go ?_; conv => whnf) | (refine Wr.any ?_; conv => whnf))
  refine sel_mk (fun h1 => ?_) (fun h1 => ?_)
  · conv => whnf
    repeat (first | (refine CW.run rfl ?_; conv => whnf) | (refine CW.go ?_; conv => whnf) | (refine Wr.any ?_; conv => whnf))
    exact .inr ⟨by simp [partB] at h1 ⊢; omega, rfl, h⟩
  conv => whnf
  repeat (first | (refine CW.run rfl ?_; conv => whnf) | (refine CW.go ?_; conv => whnf) | (refine Wr.any ?_; conv => whnf))
  refine sel_mk (fun h2 => ?_) (fun h2 => ?_)
  · conv => whnf
    repeat (first | (refine CW.run rfl ?_; conv => whnf) | (refine CW.go ?_; conv => whnf) | (refine Wr.any ?_; conv => whnf))
    exact .inr ⟨by simp [partB] at h2 ⊢; omega, rfl, h⟩
  conv => whnf
  repeat (first | (refine CW.run rfl ?_; conv => whnf) | (refine CW.go ?_; conv => whnf) | (refine Wr.any ?_; conv => whnf))
  refine M.size β w _ s _ h fun w h => ?_
  simp at h1 h2
  have := hf.2
  have e : IntKind.i64.wrap (sz s - f) = sz s - f := wr64 (by omega) (by omega)
  conv => whnf
  repeat (first | (refine CW.run rfl ?_; conv => whnf) | (refine CW.go ?_; conv => whnf) | (refine Wr.any ?_; conv => whnf))
  rw [e]
  refine sel_mk (fun h3 => ?_) (fun h3 => ?_)
  · conv => whnf
    repeat (first | (refine CW.run rfl ?_; conv => whnf) | (refine CW.go ?_; conv => whnf) | (refine Wr.any ?_; conv => whnf))
    exact .inr ⟨by simp [partB] at h3 ⊢; omega, rfl, h⟩
  conv => whnf
  repeat (first | (refine CW.run rfl ?_; conv => whnf) | (refine CW.go ?_; conv => whnf) | (refine Wr.any ?_; conv => whnf))
  refine h.newK fun b w h => ?_
  conv => whnf
  repeat (first | (refine CW.run rfl ?_; conv => whnf) | (refine CW.go ?_; conv => whnf) | (refine Wr.any ?_; conv => whnf))
  exact .inl ⟨by simp [partB] at h3 ⊢; omega, b, rfl, h⟩
end
end Go.Ev
