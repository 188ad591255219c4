/- A row of little room. Conditions: none. -/
import Derived.Test.YtfhfpklefgjeoaaMP
namespace Go.Ev
open Go Go.Proofs
set_option maxRecDepth 10000
set_option maxHeartbeats 4000000

/-- A queue, looked at: where it begins, how many it has, the error. -/
def openM (N : Int) : MP (Int × Int × Int) :=
  if N < 2 then .ret (0, 0, 1) else .rd 0 fun x e => if e = 0 then (if x.1 < 0 ∨ N - 1 ≤ x.1 ∨ x.2 < 0 ∨ N - 1 < x.2 then .ret (0, 0, 2) else .ret (x.1, x.2, 0)) else .ret (0, 0, e)
def putM (N : Int) (v : Num) (first : Bool) : MP Int :=
  if rightN v then (openM N).bind fun r => if r.2.2 = 0 then (if r.2.1 = N - 1 then .ret 31 else .wr (1 + (r.1 + (if first then -1 else r.2.1) + (N - 1)) % (N - 1)) v fun e => if e = 0 then .wr 0 (((if first then r.1 - 1 else r.1) + (N - 1)) % (N - 1), r.2.1 + 1) .ret else .ret e) else .ret r.2.2
  else .ret 1
def takeM (N : Int) (first : Bool) : MP (Num × Int) :=
  (openM N).bind fun r => if r.2.2 = 0 then (if r.2.1 = 0 then .ret ((0, 0), 32) else .rd (1 + (r.1 + (if first then 0 else r.2.1 - 1) + (N - 1)) % (N - 1)) fun v e => if e = 0 then .wr 0 (((if first then r.1 + 1 else r.1) + (N - 1)) % (N - 1), r.2.1 - 1) fun e => (if e = 0 then .ret (v, 0) else .ret ((0, 0), e)) else .ret ((0, 0), e)) else .ret ((0, 0), r.2.2)
def lenM (N : Int) : MP (Int × Int) := (openM N).bind fun r => if r.2.2 = 0 then .ret (r.2.1, 0) else .ret (0, r.2.2)
def atM (N i : Int) : MP (Num × Int) :=
  (openM N).bind fun r => if r.2.2 = 0 then (if i < 0 ∨ r.2.1 ≤ i then .ret ((0, 0), 32) else .rd (1 + (r.1 + i + (N - 1)) % (N - 1)) fun v e => .ret (v, e)) else .ret ((0, 0), r.2.2)

def qRow (b T : Nat) (u : Value) (f c n : Int) : Asrt := row b 115 [.int .i64 f, .int .i64 c, .iface T u, .int .i64 n]
theorem tmodN {a n : Int} (h : 0 ≤ a) : a.tmod n = a % n := Int.tmod_eq_emod_of_nonneg h

section
variable {σ : Type} {T : Nat} {u : Value} {R : σ → Asrt} {rd : σ → Int → (Num × Int) × σ} {wr : σ → Int → Num → Int × σ} {sz : σ → Int} {I : σ → Prop} {N : Int}
theorem openM_ok {s s' : σ} {f c : Int} (hr : (openM N).run rd wr s = ((f, c, 0), s')) : 2 ≤ N ∧ 0 ≤ f ∧ f < N - 1 ∧ 0 ≤ c ∧ c ≤ N - 1 := by
  unfold openM at hr
  split at hr
  · simp [MP.run] at hr
  · simp only [MP.run] at hr
    split at hr
    · split at hr
      · simp [MP.run] at hr
      · simp only [MP.run, Prod.mk.injEq] at hr
        obtain ⟨⟨rfl, rfl, _⟩, _⟩ := hr
        omega
    · rename_i he
      simp only [MP.run, Prod.mk.injEq] at hr
      exact absurd hr.1.2.2 he
theorem qcell_any {b : Nat} {f c n : Int} (i : Int) (hn : 0 < n) (hn2 : n ≤ 4096) (hf : 0 ≤ f ∧ f < n) (hi : -1 ≤ i ∧ i ≤ n) : ∀ β w As, Sat β w (qRow b T u f c n :: As) →
    Calls Try.prog 70 #[ptr b, .int .i64 i] w fun e w' => e = .returned (.int .i64 (1 + (f + i + n) % n)) ∧ Sat β w' (qRow b T u f c n :: As) := by
  intro β w As h
  refine calls_W (args := [ptr b, .int .i64 i]) Try.func70 rfl rfl rfl ?_
  have hm := Int.emod_lt_of_pos (f + i + n) hn
  have hm0 := Int.emod_nonneg (f + i + n) (show n ≠ 0 by omega)
  conv => whnf
  repeat (first | ((with_reducible refine CW.is ?_); refine CW.run rfl ?_; conv => whnf) | ((with_reducible refine Wr.is ?_); refine Wr.i64 (by omega) (by omega) ?_; conv => whnf) | ((with_reducible refine Ld.is ?_); refine Sat.ld 0 h rfl rfl ?_; conv => whnf) | ((with_reducible refine CW.is ?_); refine CW.draw (id := 1) [(0, 0), (1, 0), (2, 0), (3, 0), (4, 4), (5, 0), (6, 0), (7, 0), (8, 0), (9, 0), (10, 4), (11, 0), (12, 0), (13, 0), (14, 0), (15, 4), (16, 0), (17, 0), (18, 0)] rfl (by kernel_rfl) (fun _ => True) (fun w e1 e2 e3 e4 => ⟨trivial, ?_⟩); replace h := h.draw e1 e2 e3 e4; clear e1 e2 e3 e4; (conv => whnf)))
  rw [tmodN (by omega)]
  refine Chk.mk (by omega) ?_
  conv => whnf
  repeat (first | ((with_reducible refine CW.is ?_); refine CW.run rfl ?_; conv => whnf) | ((with_reducible refine Wr.is ?_); refine Wr.i64 (by omega) (by omega) ?_; conv => whnf))
  exact ⟨rfl, h⟩

variable (M : MemP T u R rd wr sz) (G : GoodM rd wr sz I N)
include M G
theorem qopen_any {s s' : σ} {f c e : Int} (hr : (openM N).run rd wr s = ((f, c, e), s')) : ∀ β w F, Sat β w [R s, F] → I s → Calls Try.prog 69 #[.iface T u] w fun e' w' =>
    (e = 0 ∧ ∃ b, e' = .returned (.tuple #[ptr b, .int .i64 0]) ∧ Sat β w' [qRow b T u f c (N - 1), R s', F]) ∨ (e ≠ 0 ∧ e' = .returned (.tuple #[.pointer none, .int .i64 e]) ∧ Sat β w' [R s', F]) := by
  intro β w F h hI
  refine calls_W (args := [.iface T u]) Try.func69 rfl rfl rfl ?_
  have := G.pos
  have := G.le
  unfold openM at hr
  conv => whnf
  repeat (first | ((with_reducible refine CW.is ?_); refine CW.go ?_; conv => whnf))
  refine M.szE G hI h fun w h => ?_
  conv => whnf
  repeat (first | ((with_reducible refine CW.is ?_); refine CW.run rfl ?_; conv => whnf))
  refine sel_mk (fun h1 => ?_) (fun h1 => ?_)
  · have h1 : N < 2 := by simpa using h1
    rw [if_pos h1] at hr
    simp only [MP.run, Prod.mk.injEq] at hr
    obtain ⟨⟨rfl, rfl, rfl⟩, rfl⟩ := hr
    conv => whnf
    repeat (first | ((with_reducible refine CW.is ?_); refine CW.run rfl ?_; conv => whnf))
    exact .inr ⟨by decide, rfl, h⟩
  have h1 : ¬ N < 2 := by simpa using h1
  rw [if_neg h1] at hr
  rcases hr2 : rd s 0 with ⟨⟨x, e2⟩, s2⟩
  have g := G.rdE hr2 hI
  simp only [MP.run, hr2] at hr
  conv => whnf
  repeat (first | ((with_reducible refine CW.is ?_); refine CW.run rfl ?_; conv => whnf))
  refine M.rdE hr2 h fun w h => ?_
  clear hr2
  conv => whnf
  skip
  refine Sat.newK h fun X w h => ?_
  conv => whnf
  repeat (first | ((with_reducible refine CW.is ?_); (first | refine CW.run rfl ?_ | refine CW.go ?_); conv => whnf) | ((with_reducible refine Runs.is ?_); refine Sat.store 0 h rfl rfl rfl rfl rfl ?_; (conv => whnf); intro w h; (conv => whnf)))
  refine sel_mk (fun h2 => ?_) (fun h2 => ?_)
  · have h2 : e2 ≠ 0 := by simpa using h2
    rw [if_neg h2] at hr
    simp only [MP.run, Prod.mk.injEq] at hr
    obtain ⟨⟨rfl, rfl, rfl⟩, rfl⟩ := hr
    conv => whnf
    repeat (first | ((with_reducible refine CW.is ?_); refine CW.run rfl ?_; conv => whnf))
    exact .inr ⟨h2, rfl, h.keep [1, 2]⟩
  obtain rfl : e2 = 0 := by simpa using h2
  rw [if_pos rfl] at hr
  conv => whnf
  repeat (first | ((with_reducible refine CW.is ?_); refine CW.run rfl ?_; conv => whnf) | ((with_reducible refine LdG.is ?_); refine Sat.ldG 0 rfl rfl ?_; conv => whnf) | ((with_reducible refine CW.is ?_); refine CW.draw (id := 6) [(0, 0), (1, 1), (2, 0), (3, 1), (4, 0), (5, 0), (6, 0), (7, 2), (8, 0), (9, 0), (10, 3), (11, 0)] rfl (by kernel_rfl) (fun u => Sat _ u _) (fun w e1 e2 e3 e4 => ⟨h.draw e1 e2 e3 e4, ?_⟩); replace h := h.draw e1 e2 e3 e4; clear e1 e2 e3 e4; (conv => whnf)))
  refine M.szE G g.1 (h.front 1 rfl) fun w h => ⟨h.bring [1, 0, 2], ?_⟩
  conv => whnf
  repeat (first | ((with_reducible refine Wr.is ?_); refine Wr.i64 (by omega) (by omega) ?_; conv => whnf))
  refine Sat.newK h fun Q w h => ?_
  conv => whnf
  repeat (first | ((with_reducible refine CW.is ?_); refine CW.go ?_; conv => whnf) | ((with_reducible refine Ld.is ?_); refine Sat.ld 0 h rfl rfl ?_; conv => whnf) | ((with_reducible refine CW.is ?_); refine CW.draw (id := 7) [(0, 0), (1, 0), (2, 0), (3, 0), (4, 4), (5, 0), (6, 0), (7, 0), (8, 0), (9, 0), (10, 0), (11, 4), (12, 0), (13, 0), (14, 0), (15, 4), (16, 0), (17, 0), (18, 0), (19, 0), (20, 0), (21, 0), (22, 0), (23, 4), (24, 0), (25, 0), (26, 0), (27, 0), (28, 0), (29, 0), (30, 0), (31, 4), (32, 0), (33, 0), (34, 0), (35, 4), (36, 0), (37, 0)] rfl (by kernel_rfl) (fun _ => True) (fun w e1 e2 e3 e4 => ⟨trivial, ?_⟩); replace h := h.draw e1 e2 e3 e4; clear e1 e2 e3 e4; (conv => whnf)))
  have bad : (x.1 < 0 ∨ N - 1 ≤ x.1 ∨ x.2 < 0 ∨ N - 1 < x.2) → e ≠ 0 ∧ e = 2 ∧ s' = s2 := by
    intro hb
    rw [if_pos hb] at hr
    simp only [MP.run, Prod.mk.injEq] at hr
    obtain ⟨⟨rfl, rfl, rfl⟩, rfl⟩ := hr
    exact ⟨by decide, rfl, rfl⟩
  refine sel_mk (fun h3 => ?_) (fun h3 => ?_)
  · have h3 : x.1 < 0 := by simpa using h3
    obtain ⟨_, rfl, rfl⟩ := bad (.inl h3)
    conv => whnf
    repeat (first | ((with_reducible refine CW.is ?_); refine CW.run rfl ?_; conv => whnf))
    exact .inr ⟨by decide, rfl, h.keep [1, 3]⟩
  have h3 : ¬ x.1 < 0 := by simpa using h3
  conv => whnf
  repeat (first | ((with_reducible refine Ld.is ?_); refine Sat.ld 0 h rfl rfl ?_; conv => whnf))
  refine sel_mk (fun h4 => ?_) (fun h4 => ?_)
  · have h4 : N - 1 ≤ x.1 := by simpa using h4
    obtain ⟨_, rfl, rfl⟩ := bad (.inr (.inl h4))
    conv => whnf
    repeat (first | ((with_reducible refine CW.is ?_); refine CW.run rfl ?_; conv => whnf))
    exact .inr ⟨by decide, rfl, h.keep [1, 3]⟩
  have h4 : ¬ N - 1 ≤ x.1 := by simpa using h4
  conv => whnf
  repeat (first | ((with_reducible refine Ld.is ?_); refine Sat.ld 0 h rfl rfl ?_; conv => whnf))
  refine sel_mk (fun h5 => ?_) (fun h5 => ?_)
  · have h5 : x.2 < 0 := by simpa using h5
    obtain ⟨_, rfl, rfl⟩ := bad (.inr (.inr (.inl h5)))
    conv => whnf
    repeat (first | ((with_reducible refine CW.is ?_); refine CW.run rfl ?_; conv => whnf))
    exact .inr ⟨by decide, rfl, h.keep [1, 3]⟩
  have h5 : ¬ x.2 < 0 := by simpa using h5
  conv => whnf
  repeat (first | ((with_reducible refine CW.is ?_); refine CW.run rfl ?_; conv => whnf) | ((with_reducible refine Ld.is ?_); refine Sat.ld 0 h rfl rfl ?_; conv => whnf))
  refine sel_mk (fun h6 => ?_) (fun h6 => ?_)
  · have h6 : N - 1 < x.2 := by simpa using h6
    obtain ⟨_, rfl, rfl⟩ := bad (.inr (.inr (.inr h6)))
    conv => whnf
    repeat (first | ((with_reducible refine CW.is ?_); refine CW.run rfl ?_; conv => whnf))
    exact .inr ⟨by decide, rfl, h.keep [1, 3]⟩
  have h6 : ¬ N - 1 < x.2 := by simpa using h6
  rw [if_neg (by omega)] at hr
  simp only [MP.run, Prod.mk.injEq] at hr
  obtain ⟨⟨rfl, rfl, rfl⟩, rfl⟩ := hr
  conv => whnf
  repeat (first | ((with_reducible refine CW.is ?_); refine CW.run rfl ?_; conv => whnf))
  exact .inl ⟨rfl, Q, rfl, h.keep [0, 1, 3]⟩

omit G in
theorem qset_any {b : Nat} {f c n : Int} (x y : Int) (hn : 0 < n) (hn2 : n ≤ 4096) (hx : -1 ≤ x ∧ x ≤ n) {s s' : σ} {e : Int} (hr : wr s 0 ((x + n) % n, y) = (e, s')) : ∀ β w F, Sat β w [qRow b T u f c n, R s, F] →
    Calls Try.prog 97 #[ptr b, .int .i64 x, .int .i64 y] w fun e' w' => e' = .returned (.int .i64 e) ∧ Sat β w' [qRow b T u f c n, R s', F] := by
  intro β w F h
  refine calls_W (args := [ptr b, .int .i64 x, .int .i64 y]) Try.func97 rfl rfl rfl ?_
  conv => whnf
  repeat (first | ((with_reducible refine CW.is ?_); refine CW.run rfl ?_; conv => whnf) | ((with_reducible refine Wr.is ?_); refine Wr.i64 (by omega) (by omega) ?_; conv => whnf) | ((with_reducible refine Ld.is ?_); refine Sat.ld 0 h rfl rfl ?_; conv => whnf) | ((with_reducible refine CW.is ?_); refine CW.draw (id := 1) [(0, 0), (1, 0), (2, 0), (3, 4), (4, 0), (5, 0), (6, 0), (7, 0), (8, 4), (9, 0), (10, 0), (11, 0), (12, 0), (13, 4), (14, 0), (15, 0), (16, 0), (17, 0), (18, 0), (19, 3), (20, 0)] rfl (by kernel_rfl) (fun _ => True) (fun w e1 e2 e3 e4 => ⟨trivial, ?_⟩); replace h := h.draw e1 e2 e3 e4; clear e1 e2 e3 e4; (conv => whnf)))
  refine Chk.mk (by omega) ?_
  rw [tmodN (by omega)]
  conv => whnf
  skip
  refine M.wrE hr (h.front 1 rfl) fun w h => ?_
  conv => whnf
  repeat (first | ((with_reducible refine CW.is ?_); refine CW.run rfl ?_; conv => whnf))
  exact ⟨rfl, h.keep [1, 0, 2]⟩
end
end Go.Ev
