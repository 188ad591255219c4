/- The walk of the law on whoever gives way. Conditions: none. -/
import Derived.Test.YtdoafnbffgkgoaaPolF
namespace Go.Ev
open Go Go.Proofs
set_option maxRecDepth 10000

theorem lawYields (p e : Int) {a : Option Addr} {c : Nat} {l : List (Int × Int)} (hl : l.length ≤ 9223372036854775807) (hlc : l.length ≤ c) (he : -9223372036854775808 ≤ e ∧ e < 9223372036854775808) : ∀ β w As, Sat β w As → Rds β As 2 encD a l →
    Calls Try.prog 3 #[.int .i64 p, .slice a l.length c, .int .i64 e] w fun e w' => e = .returned (.bool true) ∧ Sat β w' As := by
  intro β w As h hr
  refine calls_W (args := [.int .i64 p, .slice a l.length c, .int .i64 e]) Try.func3 rfl rfl rfl ?_
  conv => whnf
  repeat (first | (refine CW.run rfl ?_; conv => whnf) | (refine CW.go ?_; conv => whnf))
  refine sel_mk (fun h1 => ?_) (fun h1 => ?_)
  · conv => whnf
    repeat (first | (refine CW.run rfl ?_; conv => whnf) | (refine CW.go ?_; conv => whnf))
    refine alive_any.call h (Try.call6 _ _) fun w h => ?_
    conv => whnf
    repeat (first | (refine CW.run rfl ?_; conv => whnf) | (refine CW.go ?_; conv => whnf))
    exact ⟨rfl, h⟩
  have hsm : l.length ≤ 100 := by simp at h1; omega
  conv => whnf
  repeat (first | (refine CW.run rfl ?_; conv => whnf) | (refine CW.go ?_; conv => whnf))
  refine CW.loop [0, 1, 2, 7] (fun m vs w => ∃ k : Nat, k ≤ l.length ∧ m = l.length - k ∧ vs = [.int .i64 p, .slice a l.length c, .int .i64 e, .int .i64 k] ∧ Sat β w As) ?_ ?_
  · conv => whnf
    repeat (first | (refine CW.run rfl ?_; conv => whnf) | (refine CW.go ?_; conv => whnf))
    exact ⟨_, 0, Nat.zero_le _, rfl, rfl, h⟩
  rintro m _ w ⟨k, hk, rfl, rfl, h⟩
  conv => whnf
  repeat (first | (refine CW.run rfl ?_; conv => whnf) | (refine CW.go ?_; conv => whnf))
  refine sel_mk (fun h1 => ?_) (fun h1 => ?_)
  · have hlt : k < l.length := by simpa using h1
    have hx := List.getElem?_eq_getElem hlt
    have bad : ∀ w (K : Value → World → Prop), Sat β w As → (∀ w', Sat β w' As → K (.bool true) w') → CallF Try.prog 6 [] w K := fun w K h k => alive_any.call h (Try.call6 _ _) k
    conv => whnf
    repeat (first | (refine CW.run rfl ?_; conv => whnf) | (refine CW.go ?_; conv => whnf))
    refine Chk.mk ⟨by omega, by omega, hr.okLt hlt⟩ ?_
    conv => whnf
    repeat (first | (refine CW.run rfl ?_; conv => whnf) | (refine CW.go ?_; conv => whnf))
    refine hr.ld (i := k) (j := 1) h hx (by decide) rfl (by simp) ?_
    conv => whnf
    repeat (first | (refine CW.run rfl ?_; conv => whnf) | (refine CW.go ?_; conv => whnf))
    refine sel_mk (fun h2 => ?_) (fun h2 => ?_)
    · conv => whnf
      repeat (first | (refine CW.run rfl ?_; conv => whnf) | (refine CW.go ?_; conv => whnf))
      refine bad w _ h fun w h => ?_
      conv => whnf
      repeat (first | (refine CW.run rfl ?_; conv => whnf) | (refine CW.go ?_; conv => whnf))
      exact ⟨rfl, h⟩
    · conv => whnf
      repeat (first | (refine CW.run rfl ?_; conv => whnf) | (refine CW.go ?_; conv => whnf))
      refine Chk.mk ⟨by omega, by omega, hr.okLt hlt⟩ ?_
      conv => whnf
      repeat (first | (refine CW.run rfl ?_; conv => whnf) | (refine CW.go ?_; conv => whnf))
      refine hr.ld (i := k) (j := 1) h hx (by decide) rfl (by simp) ?_
      conv => whnf
      repeat (first | (refine CW.run rfl ?_; conv => whnf) | (refine CW.go ?_; conv => whnf))
      refine sel_mk (fun h3 => ?_) (fun h3 => ?_)
      · conv => whnf
        repeat (first | (refine CW.run rfl ?_; conv => whnf) | (refine CW.go ?_; conv => whnf))
        refine bad w _ h fun w h => ?_
        conv => whnf
        repeat (first | (refine CW.run rfl ?_; conv => whnf) | (refine CW.go ?_; conv => whnf))
        exact ⟨rfl, h⟩
      · conv => whnf
        repeat (first | (refine CW.run rfl ?_; conv => whnf) | (refine CW.go ?_; conv => whnf))
        refine ⟨_, ?_, k + 1, hlt, rfl, ?_, h⟩
        · omega
        · rw [wr64 (by omega) (by omega)]; rfl
  · conv => whnf
    repeat (first | (refine CW.run rfl ?_; conv => whnf) | (refine CW.go ?_; conv => whnf))
    refine h.newK fun B w h => ?_
    conv => whnf
    repeat (first | (refine CW.run rfl ?_; conv => whnf) | (refine CW.go ?_; conv => whnf))
    refine h.store 0 rfl rfl rfl rfl rfl ?_
    conv => whnf
    intro w h
    conv => whnf
    repeat (refine CW.run rfl ?_; conv => whnf)
    refine CW.join [0, 2, 8, 9] (fun vs w => ∃ (me : Int × Int) (a' : Option Addr) (c' : Nat) (l' : List (Int × Int)), l'.length ≤ 100 ∧ vs = [.int .i64 p, .int .i64 e, .pointer (some ⟨B, 0, none⟩), .slice a' l'.length c'] ∧ Rds β As 2 encD a' l' ∧
      Sat β w (row B 26 [.int .i64 me.1, .int .i64 me.2] :: As)) ?_ ?_
    · conv => whnf
      repeat (first | (refine CW.run rfl ?_; conv => whnf) | (refine CW.go ?_; conv => whnf))
      refine sel_mk (fun h2 => ?_) (fun h2 => ?_)
      · have hlt : 0 < l.length := by simp at h2; omega
        have hx := List.getElem?_eq_getElem hlt
        conv => whnf
        repeat (first | (refine CW.run rfl ?_; conv => whnf) | (refine CW.go ?_; conv => whnf))
        refine Chk.mk ⟨by omega, by omega, hr.okLt hlt⟩ ?_
        conv => whnf
        repeat (first | (refine CW.run rfl ?_; conv => whnf) | (refine CW.go ?_; conv => whnf))
        refine hr.ldN (i := 0) h.tail hx rfl (by simp) ?_
        conv => whnf
        repeat (first | (refine CW.run rfl ?_; conv => whnf) | (refine CW.go ?_; conv => whnf))
        refine h.store 0 rfl rfl rfl rfl rfl ?_
        conv => whnf
        intro w h
        conv => whnf
        repeat (first | (refine CW.run rfl ?_; conv => whnf) | (refine CW.go ?_; conv => whnf))
        refine hr.sliceFrom (k := 1) rfl rfl rfl hlc rfl hlt fun a' hr' => ?_
        conv => whnf
        repeat (first | (refine CW.run rfl ?_; conv => whnf) | (refine CW.go ?_; conv => whnf))
        exact ⟨l[0], a', _, l.drop 1, by simp; omega, rfl, hr', h⟩
      · conv => whnf
        repeat (first | (refine CW.run rfl ?_; conv => whnf) | (refine CW.go ?_; conv => whnf))
        exact ⟨(0, 0), a, c, l, hsm, rfl, hr, h⟩
    rintro _ w ⟨me, a', c', l', hl', rfl, hr', h⟩
    have pe := pause_any e he.1 he.2
    have qe := refPause_any e he.1 he.2
    generalize pauseOf e = ve at pe qe
    have yy := fun β w As => yields_any p me (a := a') (c := c') (l := l') (by omega) β w As
    have rr := fun {a c} β w As => refYields_any p me (a := a) (c := c) (l := l') (by omega) β w As
    generalize yOf p me l' = vy at yy rr
    conv => whnf
    repeat (first | (refine CW.run rfl ?_; conv => whnf) | (refine CW.go ?_; conv => whnf))
    refine CW.draw [(0, 0), (1, 0), (2, 1), (3, 0), (4, 1), (5, 0), (6, 0), (7, 2), (8, 3), (9, 0)] rfl (by kernel_rfl) (fun u => Sat β u (row B 26 [.int .i64 me.1, .int .i64 me.2] :: As)) (fun w e1 e2 e3 e4 => ⟨h.draw e1 e2 e3 e4, ?_⟩)
    replace h := h.draw e1 e2 e3 e4
    clear e1 e2 e3 e4
    conv => whnf
    repeat (first | (refine CW.run rfl ?_; conv => whnf) | (refine CW.go ?_; conv => whnf))
    refine LdG.mk _ (fun u hu => hu.cell 0 rfl rfl) ?_
    conv => whnf
    repeat (first | (refine CW.run rfl ?_; conv => whnf) | (refine CW.go ?_; conv => whnf))
    refine LdG.mk _ (fun u hu => hu.cell 0 rfl rfl) ?_
    conv => whnf
    repeat (first | (refine CW.run rfl ?_; conv => whnf) | (refine CW.go ?_; conv => whnf))
    refine CallF.ret (sides_any (l := l') (by omega) β w _ h hr'.cons) (Try.call8 _ _) ?_
    rintro _ w ⟨a2, c2, rfl, h⟩
    refine ⟨_, rfl, h.tail, ?_⟩
    conv => whnf
    repeat (first | (refine CW.run rfl ?_; conv => whnf) | (refine CW.go ?_; conv => whnf))
    refine CallF.val (rr β w _ h (h.rds 0 rfl)) (Try.call7 _ _) fun w h => ?_
    replace h := h.tail
    conv => whnf
    repeat (first | (refine CW.run rfl ?_; conv => whnf) | (refine CW.go ?_; conv => whnf))
    refine alive_any.call h (Try.call6 _ _) fun w h => ?_
    conv => whnf
    repeat (first | (refine CW.run rfl ?_; conv => whnf) | (refine CW.go ?_; conv => whnf))
    refine h.ldN 0 rfl _ rfl rfl ?_
    conv => whnf
    repeat (first | (refine CW.run rfl ?_; conv => whnf) | (refine CW.go ?_; conv => whnf))
    refine CallF.val (yy β w _ h hr'.cons) (Try.call9 _ _) fun w h => ?_
    conv => whnf
    repeat (first | (refine CW.run rfl ?_; conv => whnf) | (refine CW.go ?_; conv => whnf))
    refine sel_true (by simp) ?_
    conv => whnf
    repeat (first | (refine CW.run rfl ?_; conv => whnf) | (refine CW.go ?_; conv => whnf))
    refine pe.call h (Try.call10 _ _) fun w h => ?_
    conv => whnf
    repeat (first | (refine CW.run rfl ?_; conv => whnf) | (refine CW.go ?_; conv => whnf))
    refine qe.call h (Try.call11 _ _) fun w h => ?_
    conv => whnf
    repeat (first | (refine CW.run rfl ?_; conv => whnf) | (refine CW.go ?_; conv => whnf))
    exact ⟨retB (by simp), h.tail⟩
end Go.Ev
