/- A live question of memory. Conditions: none. -/
import Derived.Test.YtfhfpklefgjeoaaMemD
namespace Go.Ev
open Go Go.Proofs
set_option maxRecDepth 10000

theorem alive2_any : Fn Try.prog 15 [] (.bool true) := by
  intro β w As h
  refine calls_W (args := []) Try.func15 rfl rfl rfl ?_
  conv => whnf
  repeat (first | (refine CW.run rfl ?_; conv => whnf) | (refine CW.go ?_; conv => whnf) | (refine Wr.any ?_; conv => whnf))
  refine CallF.ret (memNew_any 4 (by decide) (by decide) β w _ h) (Try.call33 _ _) ?_
  rintro _ w ⟨p, rfl, h⟩
  refine ⟨_, rfl, ?_⟩
  have e0 : List.replicate (Int.toNat 4) ((0, 0) : Num) = [(0, 0), (0, 0), (0, 0), (0, 0)] := rfl
  rw [e0] at h
  conv => whnf
  repeat (first | (refine CW.run rfl ?_; conv => whnf) | (refine CW.go ?_; conv => whnf) | (refine Wr.any ?_; conv => whnf))
  refine CallF.ret (part_any (f := 1) (n := 2) (plainMem p) ⟨by decide, by decide⟩ ⟨by decide, by decide⟩ β w _ h) (Try.call25 _ _) ?_
  rintro _ w (⟨_, m, rfl, h⟩ | ⟨hb, _⟩)
  rotate_left
  · exact absurd hb (by decide)
  refine ⟨_, rfl, ?_⟩
  conv => whnf
  repeat (first | (refine CW.run rfl ?_; conv => whnf) | (refine CW.go ?_; conv => whnf) | (refine Wr.any ?_; conv => whnf))
  have c := wwrite_any (f := 1) (n := 2) (b := m) (plainMem p) 1 (7, 0) (by decide) (by decide) β w _ h
  have e1 : wrW wrP 1 2 [(0, 0), (0, 0), (0, 0), (0, 0)] 1 (7, 0) = (0, [(0, 0), (0, 0), (7, 0), (0, 0)]) := by decide
  rw [e1] at c
  refine CallF.val c (Try.call27 _ _) fun w h => ?_
  clear c e1 e0
  conv => whnf
  repeat (first | (refine CW.run rfl ?_; conv => whnf) | (refine CW.go ?_; conv => whnf) | (refine Wr.any ?_; conv => whnf))
  have c := wwrite_any (f := 1) (n := 2) (b := m) (plainMem p) 2 (7, 0) (by decide) (by decide) β w _ h
  have e1 : wrW wrP 1 2 [(0, 0), (0, 0), (7, 0), (0, 0)] 2 (7, 0) = (2, [(0, 0), (0, 0), (7, 0), (0, 0)]) := by decide
  rw [e1] at c
  refine CallF.val c (Try.call27 _ _) fun w h => ?_
  clear c e1
  replace h := h.tail
  conv => whnf
  repeat (first | (refine CW.run rfl ?_; conv => whnf) | (refine CW.go ?_; conv => whnf) | (refine Wr.any ?_; conv => whnf))
  have c := read_any 2 β w _ h
  have e1 : rdN [(0, 0), (0, 0), (7, 0), (0, 0)] 2 = ((7, 0), 0) := by decide
  rw [e1] at c
  refine CallF.val c (Try.call30 _ _) fun w h => ?_
  clear c e1
  conv => whnf
  repeat (first | (refine CW.run rfl ?_; conv => whnf) | (refine CW.go ?_; conv => whnf) | (refine Wr.any ?_; conv => whnf))
  refine h.newK fun X w h => ?_
  conv => whnf
  repeat (first | (refine CW.run rfl ?_; conv => whnf) | (refine CW.go ?_; conv => whnf) | (refine Wr.any ?_; conv => whnf))
  refine h.store 0 rfl rfl rfl rfl rfl ?_
  conv => whnf
  repeat (refine Wr.any ?_; conv => whnf)
  intro w h
  replace h := h.f1
  conv => whnf
  repeat (first | (refine CW.run rfl ?_; conv => whnf) | (refine CW.go ?_; conv => whnf) | (refine Wr.any ?_; conv => whnf))
  refine CallF.ret (fuse_any (T := 26) (u := ptr p) (R := Plain p) 1 (by decide) β w _ h) (Try.call17 _ _) ?_
  rintro _ w ⟨u, rfl, h⟩
  refine ⟨_, rfl, ?_⟩
  conv => whnf
  repeat (first | (refine CW.run rfl ?_; conv => whnf) | (refine CW.go ?_; conv => whnf) | (refine Wr.any ?_; conv => whnf))
  have c := fread_any (plainMem p) 2 β w _ h
  have e1 : rdF rdP (Int.toNat 1, [(0, 0), (0, 0), (7, 0), (0, 0)]) 2 = (((7, 0), 0), (0, [(0, 0), (0, 0), (7, 0), (0, 0)])) := by decide
  rw [e1] at c
  refine CallF.val c (Try.call20 _ _) fun w h => ?_
  clear c e1
  conv => whnf
  repeat (first | (refine CW.run rfl ?_; conv => whnf) | (refine CW.go ?_; conv => whnf) | (refine Wr.any ?_; conv => whnf))
  refine h.newK fun Y w h => ?_
  conv => whnf
  repeat (first | (refine CW.run rfl ?_; conv => whnf) | (refine CW.go ?_; conv => whnf) | (refine Wr.any ?_; conv => whnf))
  refine h.store 0 rfl rfl rfl rfl rfl ?_
  conv => whnf
  repeat (refine Wr.any ?_; conv => whnf)
  intro w h
  replace h := h.f1
  conv => whnf
  repeat (first | (refine CW.run rfl ?_; conv => whnf) | (refine CW.go ?_; conv => whnf) | (refine Wr.any ?_; conv => whnf))
  have c := fread_any (plainMem p) 2 β w _ h
  have e1 : rdF rdP (0, [(0, 0), (0, 0), (7, 0), (0, 0)]) 2 = (((0, 0), 41), (0, [(0, 0), (0, 0), (7, 0), (0, 0)])) := by decide
  rw [e1] at c
  refine CallF.val c (Try.call20 _ _) fun w h => ?_
  clear c e1
  conv => whnf
  repeat (first | (refine CW.run rfl ?_; conv => whnf) | (refine CW.go ?_; conv => whnf) | (refine Wr.any ?_; conv => whnf))
  refine h.newK fun Z w h => ?_
  conv => whnf
  repeat (first | (refine CW.run rfl ?_; conv => whnf) | (refine CW.go ?_; conv => whnf) | (refine Wr.any ?_; conv => whnf))
  refine h.store 0 rfl rfl rfl rfl rfl ?_
  conv => whnf
  repeat (refine Wr.any ?_; conv => whnf)
  intro w h
  replace h := h.tail
  conv => whnf
  repeat (first | (refine CW.run rfl ?_; conv => whnf) | (refine CW.go ?_; conv => whnf) | (refine Wr.any ?_; conv => whnf))
  refine h.ld 2 rfl rfl ?_
  conv => whnf
  repeat (first | (refine CW.run rfl ?_; conv => whnf) | (refine CW.go ?_; conv => whnf) | (refine Wr.any ?_; conv => whnf))
  refine h.ldN 1 rfl _ rfl rfl ?_
  conv => whnf
  repeat (first | (refine CW.run rfl ?_; conv => whnf) | (refine CW.go ?_; conv => whnf) | (refine Wr.any ?_; conv => whnf))
  refine h.ldN 2 rfl _ rfl rfl ?_
  conv => whnf
  repeat (first | (refine CW.run rfl ?_; conv => whnf) | (refine CW.go ?_; conv => whnf) | (refine Wr.any ?_; conv => whnf))
  refine eqN (xs := (7, 0)) (ys := (7, 0)) ?_
  conv => whnf
  repeat (first | (refine CW.run rfl ?_; conv => whnf) | (refine CW.go ?_; conv => whnf) | (refine Wr.any ?_; conv => whnf))
  refine CallF.val (left_any β w _ h) (Try.call22 _ _) fun w h => ?_
  conv => whnf
  repeat (first | (refine CW.run rfl ?_; conv => whnf) | (refine CW.go ?_; conv => whnf) | (refine Wr.any ?_; conv => whnf))
  refine CallF.val (fsize_any (plainMem p) β w _ h) (Try.call23 _ _) fun w h => ?_
  conv => whnf
  repeat (first | (refine CW.run rfl ?_; conv => whnf) | (refine CW.go ?_; conv => whnf) | (refine Wr.any ?_; conv => whnf))
  exact ⟨rfl, h.tail.tail.tail⟩
end Go.Ev
