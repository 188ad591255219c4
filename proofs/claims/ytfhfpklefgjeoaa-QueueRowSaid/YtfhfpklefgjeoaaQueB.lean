/- A row of little room: what is put, taken, told. Conditions: none. -/
import Derived.Test.YtfhfpklefgjeoaaQueA
namespace Go.Ev
open Go Go.Proofs
set_option maxRecDepth 10000
set_option maxHeartbeats 4000000

section
variable {σ : Type} {T : Nat} {u : Value} {R : σ → Asrt} {rd : σ → Int → (Num × Int) × σ} {wr : σ → Int → Num → Int × σ} {sz : σ → Int} {I : σ → Prop} {N : Int}
variable (M : MemP T u R rd wr sz) (G : GoodM rd wr sz I N)
include M G
theorem putM_any (v : Num) (first : Bool) : Does T u R rd wr I 88 [vN v, .bool first] (putM N v first) oE := by
  refine .mk fun β w F s h hI => ?_
  refine calls_W (args := [.iface T u, vN v, .bool first]) Try.func88 rfl rfl rfl ?_
  have := G.pos
  have := G.le
  unfold putM
  conv => whnf
  skip
  refine Sat.newK h fun V w h => ?_
  conv => whnf
  repeat (first | ((with_reducible refine CW.is ?_); refine CW.go ?_; conv => whnf) | ((with_reducible refine LdN.is ?_); refine Sat.ldN 0 h rfl _ rfl rfl ?_; conv => whnf))
  refine Sat.newK h fun S w h => ?_
  conv => whnf
  skip
  refine gRight1 h (fun hv w h => ?_) (fun hv w h => ?_)
  rotate_left
  · conv => whnf
    repeat (first | ((with_reducible refine CW.is ?_); refine CW.run rfl ?_; conv => whnf))
    rw [if_neg (by simp [hv])]
    exact ⟨rfl, h.keep [1, 2]⟩
  rw [if_pos hv, MP.run_bind]
  rcases hr : (openM N).run rd wr s with ⟨⟨f, c, e⟩, s'⟩
  have hI2 := G.runE hr hI
  conv => whnf
  repeat (first | ((with_reducible refine CW.is ?_); refine CW.run rfl ?_; conv => whnf))
  refine CallF.ret (qopen_any M G hr β w (Bag _) (Sat.bag.1 (h.bring [1, 0, 2])) hI) (Try.call69 _ _) ?_
  rintro _ w (⟨rfl, b, rfl, h⟩ | ⟨he, rfl, h⟩)
  rotate_left
  · refine ⟨_, rfl, ?_⟩
    replace h := Sat.bag.2 h
    conv => whnf
    repeat (first | ((with_reducible refine CW.is ?_); (first | refine CW.run rfl ?_ | refine CW.go ?_); conv => whnf))
    refine sel_true (by simp [he]) ?_
    conv => whnf
    repeat (first | ((with_reducible refine CW.is ?_); refine CW.run rfl ?_; conv => whnf))
    rw [if_neg he]
    exact ⟨rfl, h.keep [0, 2]⟩
  refine ⟨_, rfl, ?_⟩
  replace h : Sat β w [qRow b T u f c (N - 1), R s', row V 33 [.int .i64 v.1, .int .i64 v.2], F] := Sat.bag2.2 h
  have ok := openM_ok hr
  clear hr
  conv => whnf
  repeat (first | ((with_reducible refine CW.is ?_); (first | refine CW.run rfl ?_ | refine CW.go ?_); conv => whnf) | ((with_reducible refine Ld.is ?_); refine Sat.ld 0 h rfl rfl ?_; conv => whnf) | ((with_reducible refine CW.is ?_); refine CW.draw (id := 6) [(0, 0), (1, 0), (2, 0), (3, 0), (4, 4), (5, 0), (6, 0), (7, 0), (8, 4), (9, 0)] rfl (by kernel_rfl) (fun _ => True) (fun w e1 e2 e3 e4 => ⟨trivial, ?_⟩); replace h := h.draw e1 e2 e3 e4; clear e1 e2 e3 e4; (conv => whnf)))
  refine sel_mk (fun h1 => ?_) (fun h1 => ?_)
  · have h1 : c = N - 1 := by simpa using h1
    conv => whnf
    repeat (first | ((with_reducible refine CW.is ?_); refine CW.run rfl ?_; conv => whnf))
    rw [if_pos rfl, if_pos h1]
    exact ⟨rfl, h.keep [1, 3]⟩
  have h1 : ¬ c = N - 1 := by simpa using h1
  rw [if_pos rfl, if_neg h1]
  conv => whnf
  repeat (first | ((with_reducible refine CW.is ?_); refine CW.run rfl ?_; conv => whnf) | ((with_reducible refine Ld.is ?_); refine Sat.ld 0 h rfl rfl ?_; conv => whnf) | ((with_reducible refine CW.is ?_); refine CW.draw (id := 8) [(0, 0), (1, 0), (2, 0), (3, 0), (4, 4), (5, 0), (6, 0), (7, 0), (8, 0), (9, 4), (10, 0), (11, 0)] rfl (by kernel_rfl) (fun _ => True) (fun w e1 e2 e3 e4 => ⟨trivial, ?_⟩); replace h := h.draw e1 e2 e3 e4; clear e1 e2 e3 e4; (conv => whnf)))
  refine CW.join [0, 4, 7, 9, 10] (fun vs w => vs = [.iface T u, ptr V, ptr b, .int .i64 (if first then -1 else c), .int .i64 (if first then f - 1 else f)] ∧ Sat β w [qRow b T u f c (N - 1), R s', row V 33 [.int .i64 v.1, .int .i64 v.2], F]) ?_ ?_
  · cases first
    all_goals
      conv => whnf
      repeat (first | ((with_reducible refine CW.is ?_); refine CW.run rfl ?_; conv => whnf) | ((with_reducible refine Wr.is ?_); refine Wr.i64 (by omega) (by omega) ?_; conv => whnf) | ((with_reducible refine Ld.is ?_); refine Sat.ld 0 h rfl rfl ?_; conv => whnf) | ((with_reducible refine CW.is ?_); refine CW.draw (id := 10) [(0, 0), (1, 0), (2, 0), (3, 0), (4, 4), (5, 0), (6, 0), (7, 0)] rfl (by kernel_rfl) (fun _ => True) (fun w e1 e2 e3 e4 => ⟨trivial, ?_⟩); replace h := h.draw e1 e2 e3 e4; clear e1 e2 e3 e4; (conv => whnf)))
      exact ⟨rfl, h⟩
  clear h
  rintro _ w ⟨rfl, h⟩
  have hi : -1 ≤ (if first then -1 else c) ∧ (if first then -1 else c) ≤ N - 1 := by split <;> omega
  have hf : -1 ≤ (if first then f - 1 else f) ∧ (if first then f - 1 else f) ≤ N - 1 := by split <;> omega
  generalize (if first then -1 else c) = i at hi
  generalize (if first then f - 1 else f) = fr at hf
  rcases hw : wr s' (1 + (f + i + (N - 1)) % (N - 1)) v with ⟨e, s2⟩
  simp only [MP.run, hw]
  conv => whnf
  repeat (first | (refine CW.run rfl ?_; conv => whnf) | (refine CW.go ?_; conv => whnf) | (refine Wr.any ?_; conv => whnf))
  refine CW.draw (id := 11) [(0, 0), (1, 0), (2, 0), (3, 1), (4, 0), (5, 0), (7, 1), (8, 0), (9, 0), (6, 2), (10, 3), (11, 0)] rfl (by kernel_rfl) (fun u' => Sat β u' [qRow b T u f c (N - 1), row V 33 [.int .i64 v.1, .int .i64 v.2]]) (fun w e1 e2 e3 e4 => ⟨(h.draw e1 e2 e3 e4).keep [0, 2], ?_⟩)
  replace h := h.draw e1 e2 e3 e4
  clear e1 e2 e3 e4
  conv => whnf
  repeat (first | ((with_reducible refine LdG.is ?_); refine Sat.ldG 0 rfl rfl ?_; conv => whnf) | ((with_reducible refine LdGN.is ?_); refine Sat.ldGN 1 rfl _ rfl rfl ?_; conv => whnf))
  refine CallF.val (qcell_any (n := N - 1) i (by omega) (by omega) ⟨by omega, by omega⟩ hi β w _ h) (Try.call70 _ _) fun w h => ⟨h.keep [0, 2], ?_⟩
  conv => whnf
  skip
  refine M.wrE hw (h.front 1 rfl) fun w h => ?_
  conv => whnf
  repeat (first | ((with_reducible refine CW.is ?_); refine CW.run rfl ?_; conv => whnf))
  refine sel_mk (fun h2 => ?_) (fun h2 => ?_)
  · have h2 : e ≠ 0 := by simpa using h2
    conv => whnf
    repeat (first | ((with_reducible refine CW.is ?_); refine CW.run rfl ?_; conv => whnf))
    rw [if_neg h2]
    exact ⟨rfl, h.keep [0, 3]⟩
  obtain rfl : e = 0 := by simpa using h2
  rw [if_pos rfl]
  rcases hw2 : wr s2 0 ((fr + (N - 1)) % (N - 1), c + 1) with ⟨e, s3⟩
  simp only [MP.run, hw2]
  replace h : Sat β w [qRow b T u f c (N - 1), R s2, row V 33 [.int .i64 v.1, .int .i64 v.2], F] := h.keep [1, 0, 2, 3]
  conv => whnf
  repeat (first | ((with_reducible refine CW.is ?_); refine CW.run rfl ?_; conv => whnf) | ((with_reducible refine Wr.is ?_); refine Wr.i64 (by omega) (by omega) ?_; conv => whnf) | ((with_reducible refine Ld.is ?_); refine Sat.ld 0 h rfl rfl ?_; conv => whnf))
  refine CallF.val (qset_any M (n := N - 1) fr (c + 1) (by omega) (by omega) hf hw2 β w (Bag _) (Sat.bag2.1 h)) (Try.call97 _ _) fun w h => ?_
  replace h := Sat.bag2.2 h
  conv => whnf
  repeat (first | ((with_reducible refine CW.is ?_); refine CW.run rfl ?_; conv => whnf))
  exact ⟨rfl, h.keep [1, 3]⟩

theorem lenM_any : Does T u R rd wr I 68 [] (lenM N) (fun r => .tuple #[.int .i64 r.1, .int .i64 r.2]) := by
  refine .mk fun β w F s h hI => ?_
  refine calls_W (args := [.iface T u]) Try.func68 rfl rfl rfl ?_
  unfold lenM
  rw [MP.run_bind]
  rcases hr : (openM N).run rd wr s with ⟨⟨f, c, e⟩, s'⟩
  conv => whnf
  repeat (first | ((with_reducible refine CW.is ?_); refine CW.run rfl ?_; conv => whnf))
  refine CallF.ret (qopen_any M G hr β w F h hI) (Try.call69 _ _) ?_
  rintro _ w (⟨rfl, b, rfl, h⟩ | ⟨he, rfl, h⟩)
  · refine ⟨_, rfl, ?_⟩
    conv => whnf
    repeat (first | ((with_reducible refine CW.is ?_); (first | refine CW.run rfl ?_ | refine CW.go ?_); conv => whnf) | ((with_reducible refine Ld.is ?_); refine Sat.ld 0 h rfl rfl ?_; conv => whnf))
    exact ⟨rfl, h.tail⟩
  · refine ⟨_, rfl, ?_⟩
    conv => whnf
    repeat (first | ((with_reducible refine CW.is ?_); (first | refine CW.run rfl ?_ | refine CW.go ?_); conv => whnf))
    refine sel_true (by simp [he]) ?_
    conv => whnf
    repeat (first | ((with_reducible refine CW.is ?_); refine CW.run rfl ?_; conv => whnf))
    rw [if_neg he]
    exact ⟨rfl, h⟩
theorem atM_any (i : Int) : Does T u R rd wr I 41 [.int .i64 i] (atM N i) oNE := by
  refine .mk fun β w F s h hI => ?_
  refine calls_W (args := [.iface T u, .int .i64 i]) Try.func41 rfl rfl rfl ?_
  have := G.pos
  have := G.le
  unfold atM
  rw [MP.run_bind]
  rcases hr : (openM N).run rd wr s with ⟨⟨f, c, e⟩, s'⟩
  conv => whnf
  skip
  refine Sat.newK h fun X w h => ?_
  conv => whnf
  repeat (first | ((with_reducible refine CW.is ?_); refine CW.run rfl ?_; conv => whnf))
  refine CallF.ret (qopen_any M G hr β w (Bag _) (Sat.bag.1 (h.bring [1, 0, 2])) hI) (Try.call69 _ _) ?_
  rintro _ w (⟨rfl, b, rfl, h⟩ | ⟨he, rfl, h⟩)
  rotate_left
  · refine ⟨_, rfl, ?_⟩
    replace h : Sat β w [R s', row X 33 [.int .i64 0, .int .i64 0], F] := Sat.bag.2 h
    conv => whnf
    repeat (first | ((with_reducible refine CW.is ?_); (first | refine CW.run rfl ?_ | refine CW.go ?_); conv => whnf))
    refine sel_true (by simp [he]) ?_
    conv => whnf
    repeat (first | ((with_reducible refine CW.is ?_); refine CW.run rfl ?_; conv => whnf) | ((with_reducible refine LdN.is ?_); refine Sat.ldN 1 h rfl _ rfl rfl ?_; conv => whnf) | ((with_reducible refine Runs.is ?_); refine Sat.store 1 h rfl rfl rfl rfl rfl ?_; (conv => whnf); intro w h; (conv => whnf)))
    rw [if_neg he]
    exact ⟨rfl, h.keep [0, 2]⟩
  refine ⟨_, rfl, ?_⟩
  replace h : Sat β w [qRow b T u f c (N - 1), R s', row X 33 [.int .i64 0, .int .i64 0], F] := Sat.bag2.2 h
  have ok := openM_ok hr
  clear hr
  rw [if_pos rfl]
  conv => whnf
  repeat (first | ((with_reducible refine CW.is ?_); (first | refine CW.run rfl ?_ | refine CW.go ?_); conv => whnf))
  refine sel_mk (fun h1 => ?_) (fun h1 => ?_)
  · have h1 : i < 0 := by simpa using h1
    conv => whnf
    repeat (first | ((with_reducible refine CW.is ?_); refine CW.run rfl ?_; conv => whnf) | ((with_reducible refine LdN.is ?_); refine Sat.ldN 2 h rfl _ rfl rfl ?_; conv => whnf) | ((with_reducible refine Runs.is ?_); refine Sat.store 2 h rfl rfl rfl rfl rfl ?_; (conv => whnf); intro w h; (conv => whnf)))
    rw [if_pos (.inl h1)]
    exact ⟨rfl, h.keep [1, 3]⟩
  have h1 : ¬ i < 0 := by simpa using h1
  conv => whnf
  repeat (first | ((with_reducible refine CW.is ?_); refine CW.run rfl ?_; conv => whnf) | ((with_reducible refine Ld.is ?_); refine Sat.ld 0 h rfl rfl ?_; conv => whnf))
  refine sel_mk (fun h2 => ?_) (fun h2 => ?_)
  · have h2 : c ≤ i := by simpa using h2
    conv => whnf
    repeat (first | ((with_reducible refine CW.is ?_); refine CW.run rfl ?_; conv => whnf) | ((with_reducible refine LdN.is ?_); refine Sat.ldN 2 h rfl _ rfl rfl ?_; conv => whnf) | ((with_reducible refine Runs.is ?_); refine Sat.store 2 h rfl rfl rfl rfl rfl ?_; (conv => whnf); intro w h; (conv => whnf)))
    rw [if_pos (.inr h2)]
    exact ⟨rfl, h.keep [1, 3]⟩
  have h2 : ¬ c ≤ i := by simpa using h2
  rw [if_neg (by rintro (hh | hh); exact h1 hh; exact h2 hh)]
  rcases hw : rd s' (1 + (f + i + (N - 1)) % (N - 1)) with ⟨⟨x, e⟩, s2⟩
  simp only [MP.run, hw]
  conv => whnf
  repeat (first | (refine CW.run rfl ?_; conv => whnf) | (refine CW.go ?_; conv => whnf) | (refine Wr.any ?_; conv => whnf))
  refine CW.draw (id := 6) [(0, 0), (1, 0), (2, 0), (3, 1), (4, 0), (5, 0), (7, 0), (8, 0), (6, 2), (9, 3), (10, 0), (11, 0), (12, 3), (13, 0)] rfl (by kernel_rfl) (fun u' => Sat β u' [qRow b T u f c (N - 1)]) (fun w e1 e2 e3 e4 => ⟨(h.draw e1 e2 e3 e4).keep [0], ?_⟩)
  replace h := h.draw e1 e2 e3 e4
  clear e1 e2 e3 e4
  conv => whnf
  repeat (first | ((with_reducible refine LdG.is ?_); refine Sat.ldG 0 rfl rfl ?_; conv => whnf))
  refine CallF.val (qcell_any (n := N - 1) i (by omega) (by omega) ⟨by omega, by omega⟩ ⟨by omega, by omega⟩ β w _ h) (Try.call70 _ _) fun w h => ⟨h.keep [0], ?_⟩
  conv => whnf
  skip
  refine M.rdE hw (h.front 1 rfl) fun w h => ?_
  conv => whnf
  repeat (first | ((with_reducible refine CW.is ?_); refine CW.run rfl ?_; conv => whnf) | ((with_reducible refine LdN.is ?_); refine Sat.ldN 2 h rfl _ rfl rfl ?_; conv => whnf) | ((with_reducible refine Runs.is ?_); refine Sat.store 2 h rfl rfl rfl rfl rfl ?_; (conv => whnf); intro w h; (conv => whnf)))
  exact ⟨rfl, h.keep [0, 3]⟩
theorem takeM_any (first : Bool) : Does T u R rd wr I 89 [.bool first] (takeM N first) oNE := by
  refine .mk fun β w F s h hI => ?_
  refine calls_W (args := [.iface T u, .bool first]) Try.func89 rfl rfl rfl ?_
  have := G.pos
  have := G.le
  unfold takeM
  rw [MP.run_bind]
  rcases hr : (openM N).run rd wr s with ⟨⟨f, c, e⟩, s'⟩
  have hI2 := G.runE hr hI
  conv => whnf
  skip
  refine Sat.newK h fun X w h => ?_
  conv => whnf
  repeat (first | ((with_reducible refine CW.is ?_); refine CW.run rfl ?_; conv => whnf))
  refine CallF.ret (qopen_any M G hr β w (Bag _) (Sat.bag.1 (h.bring [1, 0, 2])) hI) (Try.call69 _ _) ?_
  rintro _ w (⟨rfl, b, rfl, h⟩ | ⟨he, rfl, h⟩)
  rotate_left
  · refine ⟨_, rfl, ?_⟩
    replace h : Sat β w [R s', row X 33 [.int .i64 0, .int .i64 0], F] := Sat.bag.2 h
    conv => whnf
    repeat (first | ((with_reducible refine CW.is ?_); (first | refine CW.run rfl ?_ | refine CW.go ?_); conv => whnf))
    refine sel_true (by simp [he]) ?_
    conv => whnf
    repeat (first | ((with_reducible refine CW.is ?_); refine CW.run rfl ?_; conv => whnf) | ((with_reducible refine LdN.is ?_); refine Sat.ldN 1 h rfl _ rfl rfl ?_; conv => whnf) | ((with_reducible refine Runs.is ?_); refine Sat.store 1 h rfl rfl rfl rfl rfl ?_; (conv => whnf); intro w h; (conv => whnf)))
    rw [if_neg he]
    exact ⟨rfl, h.keep [0, 2]⟩
  refine ⟨_, rfl, ?_⟩
  replace h : Sat β w [qRow b T u f c (N - 1), R s', row X 33 [.int .i64 0, .int .i64 0], F] := Sat.bag2.2 h
  have ok := openM_ok hr
  clear hr
  rw [if_pos rfl]
  conv => whnf
  repeat (first | ((with_reducible refine CW.is ?_); (first | refine CW.run rfl ?_ | refine CW.go ?_); conv => whnf) | ((with_reducible refine Ld.is ?_); refine Sat.ld 0 h rfl rfl ?_; conv => whnf))
  refine sel_mk (fun h1 => ?_) (fun h1 => ?_)
  · have h1 : c = 0 := by simpa using h1
    conv => whnf
    repeat (first | ((with_reducible refine CW.is ?_); refine CW.run rfl ?_; conv => whnf) | ((with_reducible refine LdN.is ?_); refine Sat.ldN 2 h rfl _ rfl rfl ?_; conv => whnf) | ((with_reducible refine Runs.is ?_); refine Sat.store 2 h rfl rfl rfl rfl rfl ?_; (conv => whnf); intro w h; (conv => whnf)))
    rw [if_pos h1]
    exact ⟨rfl, h.keep [1, 3]⟩
  have h1 : ¬ c = 0 := by simpa using h1
  rw [if_neg h1]
  conv => whnf
  repeat (first | ((with_reducible refine CW.is ?_); refine CW.run rfl ?_; conv => whnf) | ((with_reducible refine Wr.is ?_); refine Wr.i64 (by omega) (by omega) ?_; conv => whnf) | ((with_reducible refine Ld.is ?_); refine Sat.ld 0 h rfl rfl ?_; conv => whnf) | ((with_reducible refine CW.is ?_); refine CW.draw (id := 6) [(0, 0), (1, 0), (2, 0), (3, 0), (4, 4), (5, 0), (6, 0), (7, 0), (8, 0), (9, 0), (10, 4), (11, 0), (12, 0)] rfl (by kernel_rfl) (fun _ => True) (fun w e1 e2 e3 e4 => ⟨trivial, ?_⟩); replace h := h.draw e1 e2 e3 e4; clear e1 e2 e3 e4; (conv => whnf)))
  refine CW.join [0, 4, 6, 8, 9] (fun vs w => vs = [.iface T u, ptr X, ptr b, .int .i64 (if first then 0 else c - 1), .int .i64 (if first then f + 1 else f)] ∧ Sat β w [qRow b T u f c (N - 1), R s', row X 33 [.int .i64 0, .int .i64 0], F]) ?_ ?_
  · cases first
    all_goals
      conv => whnf
      repeat (first | ((with_reducible refine CW.is ?_); refine CW.run rfl ?_; conv => whnf) | ((with_reducible refine Wr.is ?_); refine Wr.i64 (by omega) (by omega) ?_; conv => whnf) | ((with_reducible refine Ld.is ?_); refine Sat.ld 0 h rfl rfl ?_; conv => whnf) | ((with_reducible refine CW.is ?_); refine CW.draw (id := 8) [(0, 0), (1, 0), (2, 0), (3, 0), (4, 4), (5, 0), (6, 0), (7, 0)] rfl (by kernel_rfl) (fun _ => True) (fun w e1 e2 e3 e4 => ⟨trivial, ?_⟩); replace h := h.draw e1 e2 e3 e4; clear e1 e2 e3 e4; (conv => whnf)))
      exact ⟨rfl, h⟩
  clear h
  rintro _ w ⟨rfl, h⟩
  have hi : -1 ≤ (if first then 0 else c - 1) ∧ (if first then 0 else c - 1) ≤ N - 1 := by split <;> omega
  have hf : -1 ≤ (if first then f + 1 else f) ∧ (if first then f + 1 else f) ≤ N - 1 := by split <;> omega
  generalize (if first then 0 else c - 1) = i at hi
  generalize (if first then f + 1 else f) = fr at hf
  rcases hw : rd s' (1 + (f + i + (N - 1)) % (N - 1)) with ⟨⟨x, e⟩, s2⟩
  have g2 := G.rdE hw hI2
  simp only [MP.run, hw]
  conv => whnf
  repeat (first | (refine CW.run rfl ?_; conv => whnf) | (refine CW.go ?_; conv => whnf) | (refine Wr.any ?_; conv => whnf))
  refine CW.joinT [4, 6, 7, 9, 10] (fun vs w => ∃ Y : Nat, vs = [ptr X, ptr b, .int .i64 e, .int .i64 fr, ptr Y] ∧ Sat β w [row Y 33 [.int .i64 x.1, .int .i64 x.2], qRow b T u f c (N - 1), R s2, row X 33 [.int .i64 0, .int .i64 0], F]) ?_ ?_
  · skip
    refine CW.drawT (id := 9) [0, 0, 0, 1, 0, 0, 2, 0, 0, 2, 0, 0, 0, 2, 2, 0] (.op 0 (.op 1 (.op 2 (.op 3 (.op 4 (.op 5 (.op 7 (.op 8 (.fork (.op 6 (.fork (.op 9 (.op 10 (.op 11 (.op 12 (.op 13 (.op 14 (.op 15 .nil))))))) (.op 13 (.op 9 (.op 10 (.op 11 (.op 12 (.op 14 (.op 15 .nil))))))))) (.op 13 (.op 6 (.op 9 (.op 10 (.op 11 (.op 12 (.op 14 (.op 15 .nil))))))))))))))))) rfl (by kernel_rfl) (fun u' => Sat β u' [qRow b T u f c (N - 1)]) (fun w e1 e2 e3 e4 => ⟨(h.draw e1 e2 e3 e4).keep [0], ?_⟩)
    replace h := h.draw e1 e2 e3 e4
    clear e1 e2 e3 e4
    conv => whnf
    repeat (first | ((with_reducible refine LdG.is ?_); refine Sat.ldG 0 rfl rfl ?_; conv => whnf))
    refine ⟨?_, ?_⟩
    · conv => whnf
      skip
      refine CallF.val (qcell_any (n := N - 1) i (by omega) (by omega) ⟨by omega, by omega⟩ hi β w _ h) (Try.call70 _ _) fun w h => ⟨h.keep [0], ?_⟩
      conv => whnf
      repeat (refine Wr.any ?_; conv => whnf)
      refine ⟨?_, ?_⟩
      · conv => whnf
        repeat (refine Wr.any ?_; conv => whnf)
        refine M.rdE hw (h.front 1 rfl) fun w h => ⟨h.keep [1], ?_⟩
        conv => whnf
        repeat (refine Wr.any ?_; conv => whnf)
        refine h.newK fun Y w h => ⟨h.keep [2], ?_⟩
        conv => whnf
        repeat (refine Wr.any ?_; conv => whnf)
        refine h.store 0 rfl rfl rfl rfl rfl ?_
        conv => whnf
        repeat (refine Wr.any ?_; conv => whnf)
        intro w h
        refine ⟨h.keep [2], ?_⟩
        conv => whnf
        skip
        exact ⟨Y, rfl, h.keep [0, 2, 1, 3, 4]⟩
      · conv => whnf
        repeat (refine Wr.any ?_; conv => whnf)
        refine h.newK fun Y w h => ⟨h.keep [1], ?_⟩
        conv => whnf
        repeat (refine Wr.any ?_; conv => whnf)
        refine M.rdE hw (h.front 2 rfl) fun w h => ⟨h.keep [2], ?_⟩
        conv => whnf
        repeat (refine Wr.any ?_; conv => whnf)
        refine h.store 1 rfl rfl rfl rfl rfl ?_
        conv => whnf
        repeat (refine Wr.any ?_; conv => whnf)
        intro w h
        refine ⟨h.keep [2], ?_⟩
        conv => whnf
        skip
        exact ⟨Y, rfl, h.keep [1, 2, 0, 3, 4]⟩
    · conv => whnf
      repeat (refine Wr.any ?_; conv => whnf)
      refine h.newK fun Y w h => ⟨h.keep [1], ?_⟩
      conv => whnf
      repeat (refine Wr.any ?_; conv => whnf)
      refine CallF.val (qcell_any (n := N - 1) i (by omega) (by omega) ⟨by omega, by omega⟩ hi β w _ (h.bring [1, 0, 2, 3, 4])) (Try.call70 _ _) fun w h => ⟨h.keep [0], ?_⟩
      conv => whnf
      repeat (refine Wr.any ?_; conv => whnf)
      refine M.rdE hw (h.front 2 rfl) fun w h => ⟨h.keep [1], ?_⟩
      conv => whnf
      repeat (refine Wr.any ?_; conv => whnf)
      refine h.store 2 rfl rfl rfl rfl rfl ?_
      conv => whnf
      repeat (refine Wr.any ?_; conv => whnf)
      intro w h
      refine ⟨h.keep [1], ?_⟩
      conv => whnf
      skip
      exact ⟨Y, rfl, h.keep [2, 1, 0, 3, 4]⟩
  clear h hw
  rintro _ w ⟨Y, rfl, h⟩
  conv => whnf
  repeat (first | (refine CW.run rfl ?_; conv => whnf) | (refine Wr.any ?_; conv => whnf))
  refine CW.join [4, 7, 10] (fun vs w => ∃ e2 s3, (if e = 0 then MP.wr 0 ((fr + (N - 1)) % (N - 1), c - 1) fun e => (if e = 0 then MP.ret (x, 0) else .ret ((0, 0), e)) else .ret ((0, 0), e)).run rd wr s2 = ((if e2 = 0 then x else (0, 0), e2), s3) ∧ vs = [ptr X, .int .i64 e2, ptr Y] ∧ Sat β w [row Y 33 [.int .i64 x.1, .int .i64 x.2], R s3, row X 33 [.int .i64 0, .int .i64 0], F]) ?_ ?_
  · conv => whnf
    repeat (first | ((with_reducible refine CW.is ?_); refine CW.run rfl ?_; conv => whnf))
    refine sel_mk (fun h2 => ?_) (fun h2 => ?_)
    · obtain rfl : e = 0 := by simpa using h2
      rcases hw2 : wr s2 0 ((fr + (N - 1)) % (N - 1), c - 1) with ⟨e2, s3⟩
      conv => whnf
      repeat (first | ((with_reducible refine CW.is ?_); refine CW.run rfl ?_; conv => whnf) | ((with_reducible refine Wr.is ?_); refine Wr.i64 (by omega) (by omega) ?_; conv => whnf) | ((with_reducible refine Ld.is ?_); refine Sat.ld 1 h rfl rfl ?_; conv => whnf))
      refine CallF.val (qset_any M (n := N - 1) fr (c - 1) (by omega) (by omega) hf hw2 β w (Bag _) (Sat.bag2.1 (h.bring [1, 2, 0, 3, 4]))) (Try.call97 _ _) fun w h => ?_
      replace h : Sat β w [qRow b T u f c (N - 1), R s3, row Y 33 [.int .i64 x.1, .int .i64 x.2], row X 33 [.int .i64 0, .int .i64 0], F] := Sat.bag2.2 h
      conv => whnf
      skip
      refine ⟨e2, s3, ?_, rfl, h.keep [2, 1, 3, 4]⟩
      rw [if_pos rfl]
      simp only [MP.run, hw2]
      by_cases he : e2 = 0
      · subst he; rfl
      · rw [if_neg he, if_neg he]; rfl
    · have h2 : e ≠ 0 := by simpa using h2
      conv => whnf
      repeat (first | ((with_reducible refine CW.is ?_); refine CW.run rfl ?_; conv => whnf))
      refine ⟨e, s2, ?_, rfl, h.keep [0, 2, 3, 4]⟩
      rw [if_neg h2, if_neg h2]; rfl
  clear h
  rintro _ w ⟨e2, s3, hres, rfl, h⟩
  rw [hres]
  conv => whnf
  repeat (first | ((with_reducible refine CW.is ?_); (first | refine CW.run rfl ?_ | refine CW.go ?_); conv => whnf))
  refine sel_mk (fun h2 => ?_) (fun h2 => ?_)
  · have h2 : e2 ≠ 0 := by simpa using h2
    conv => whnf
    repeat (first | ((with_reducible refine CW.is ?_); refine CW.run rfl ?_; conv => whnf) | ((with_reducible refine LdN.is ?_); refine Sat.ldN 2 h rfl _ rfl rfl ?_; conv => whnf) | ((with_reducible refine Runs.is ?_); refine Sat.store 2 h rfl rfl rfl rfl rfl ?_; (conv => whnf); intro w h; (conv => whnf)))
    rw [if_neg h2]
    exact ⟨rfl, h.keep [1, 3]⟩
  · obtain rfl : e2 = 0 := by simpa using h2
    conv => whnf
    repeat (first | ((with_reducible refine CW.is ?_); refine CW.run rfl ?_; conv => whnf) | ((with_reducible refine LdN.is ?_); (first | refine Sat.ldN 0 h rfl _ rfl rfl ?_ | refine Sat.ldN 2 h rfl _ rfl rfl ?_); conv => whnf) | ((with_reducible refine Runs.is ?_); refine Sat.store 2 h rfl rfl rfl rfl rfl ?_; (conv => whnf); intro w h; (conv => whnf)))
    rw [if_pos rfl]
    exact ⟨rfl, h.keep [1, 3]⟩

theorem push_any (v : Num) : Does T u R rd wr I 64 [vN v] (putM N v false) oE := by
  refine .mk fun β w F s h hI => ?_
  refine calls_W (args := [.iface T u, vN v]) Try.func64 rfl rfl rfl ?_
  conv => whnf
  repeat (first | ((with_reducible refine CW.is ?_); refine CW.run rfl ?_; conv => whnf) | ((with_reducible refine New.is ?_); refine Sat.newK h fun b w h => ?_; conv => whnf) | ((with_reducible refine LdN.is ?_); refine Sat.ldN 0 h rfl _ rfl rfl ?_; conv => whnf))
  refine (putM_any M G v false).call (h.front 1 rfl) hI (Try.call88 _ _) fun w h => ?_
  conv => whnf
  repeat (first | ((with_reducible refine CW.is ?_); refine CW.run rfl ?_; conv => whnf))
  exact ⟨rfl, h.keep [0, 2]⟩
theorem unshift_any (v : Num) : Does T u R rd wr I 65 [vN v] (putM N v true) oE := by
  refine .mk fun β w F s h hI => ?_
  refine calls_W (args := [.iface T u, vN v]) Try.func65 rfl rfl rfl ?_
  conv => whnf
  repeat (first | ((with_reducible refine CW.is ?_); refine CW.run rfl ?_; conv => whnf) | ((with_reducible refine New.is ?_); refine Sat.newK h fun b w h => ?_; conv => whnf) | ((with_reducible refine LdN.is ?_); refine Sat.ldN 0 h rfl _ rfl rfl ?_; conv => whnf))
  refine (putM_any M G v true).call (h.front 1 rfl) hI (Try.call88 _ _) fun w h => ?_
  conv => whnf
  repeat (first | ((with_reducible refine CW.is ?_); refine CW.run rfl ?_; conv => whnf))
  exact ⟨rfl, h.keep [0, 2]⟩
theorem shift_any : Does T u R rd wr I 67 [] (takeM N true) oNE := by
  refine .mk fun β w F s h hI => ?_
  refine calls_W (args := [.iface T u]) Try.func67 rfl rfl rfl ?_
  rcases hr : (takeM N true).run rd wr s with ⟨⟨x, e⟩, s'⟩
  conv => whnf
  repeat (first | ((with_reducible refine CW.is ?_); refine CW.run rfl ?_; conv => whnf) | ((with_reducible refine New.is ?_); refine Sat.newK h fun b w h => ?_; conv => whnf))
  refine (takeM_any M G true).callE hr (h.front 1 rfl) hI (Try.call89 _ _) fun w h => ?_
  conv => whnf
  repeat (first | ((with_reducible refine CW.is ?_); refine CW.run rfl ?_; conv => whnf) | ((with_reducible refine LdN.is ?_); refine Sat.ldN 1 h rfl _ rfl rfl ?_; conv => whnf) | ((with_reducible refine Runs.is ?_); refine Sat.store 1 h rfl rfl rfl rfl rfl ?_; (conv => whnf); intro w h; (conv => whnf)))
  exact ⟨rfl, h.keep [0, 2]⟩
theorem pop_any : Does T u R rd wr I 66 [] (takeM N false) oNE := by
  refine .mk fun β w F s h hI => ?_
  refine calls_W (args := [.iface T u]) Try.func66 rfl rfl rfl ?_
  rcases hr : (takeM N false).run rd wr s with ⟨⟨x, e⟩, s'⟩
  conv => whnf
  repeat (first | ((with_reducible refine CW.is ?_); refine CW.run rfl ?_; conv => whnf) | ((with_reducible refine New.is ?_); refine Sat.newK h fun b w h => ?_; conv => whnf))
  refine (takeM_any M G false).callE hr (h.front 1 rfl) hI (Try.call89 _ _) fun w h => ?_
  conv => whnf
  repeat (first | ((with_reducible refine CW.is ?_); refine CW.run rfl ?_; conv => whnf) | ((with_reducible refine LdN.is ?_); refine Sat.ldN 1 h rfl _ rfl rfl ?_; conv => whnf) | ((with_reducible refine Runs.is ?_); refine Sat.store 1 h rfl rfl rfl rfl rfl ?_; (conv => whnf); intro w h; (conv => whnf)))
  exact ⟨rfl, h.keep [0, 2]⟩
end
end Go.Ev
