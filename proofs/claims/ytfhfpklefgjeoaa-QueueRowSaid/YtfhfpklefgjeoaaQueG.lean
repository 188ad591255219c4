/- A row of little room: one act, and the law on acts. Conditions: none. -/
import Derived.Test.YtfhfpklefgjeoaaQueF
namespace Go.Ev
open Go Go.Proofs
set_option maxRecDepth 10000
set_option maxHeartbeats 1000000

/-- What an act leaves. -/
def actQ (l : List Num) (k : Int) (v : Num) (i : Int) : List Num := ((onceQ l.length k v i).run rdP wrP l).2
theorem act5_any (k : Int) (v : Num) (i : Int) (hi : okI i) {p : Nat} {a : Option Addr} {c : Nat} {l : List Num} (hl : l.length ≤ 4096) (hok : l.all rightN = true) : ∀ β w F, Sat β w [Plain p l, Lst β a c l, F] →
    Calls Try.prog 51 #[.iface 26 (ptr p), .slice a l.length c, wA5 k v i] w fun e w' => ∃ a' c', e = .returned (.tuple #[.slice a' (actQ l k v i).length c', .bool true]) ∧
      Sat β w' [Plain p (actQ l k v i), Lst β a' c' (actQ l k v i), F] := by
  intro β w F h
  refine calls_W (args := [.iface 26 (ptr p), .slice a l.length c, wA5 k v i]) Try.func51 rfl rfl rfl ?_
  have G := goodP (N := l.length) (by omega) (by omega)
  have e1 : (onceQ l.length k v i).run rdP wrP l = if k.tmod 6 = 0 then (((0, 0), (putL l v false).1), (putL l v false).2) else if k.tmod 6 = 1 then (((0, 0), (putL l v true).1), (putL l v true).2)
      else if k.tmod 6 = 2 then takeL l true else if k.tmod 6 = 3 then takeL l false else if k.tmod 6 = 4 then (((if wrongL l = 0 then (gN l 0).2 else 0, 0), wrongL l), l) else (atL l i, l) := by
    unfold onceQ
    split
    · rw [MP.run_bind, put_plain hl]; rfl
    split
    · rw [MP.run_bind, put_plain hl]; rfl
    split
    · exact take_plain hl true
    split
    · exact take_plain hl false
    split
    · rw [MP.run_bind, len_plain]
      by_cases hw : wrongL l = 0
      · simp only [if_pos hw, hw]; rfl
      · simp only [if_neg hw]; rfl
    · exact at_plain i
  have cp := fun last => put5_any (a := a) (c := c) v last hl
  have ct := fun last => take5_any (a := a) (c := c) last hl
  have cl := len5_any (a := a) (c := c) hl
  have ca := at5_any (a := a) (c := c) i hi hl
  unfold actQ
  rcases hr : (onceQ l.length k v i).run rdP wrP l with ⟨⟨x, e⟩, l'⟩
  rw [hr] at e1
  dsimp only
  conv => whnf
  skip
  refine Sat.newK h fun A w h => ?_
  conv => whnf
  repeat (first | ((with_reducible refine CW.is ?_); refine CW.run rfl ?_; conv => whnf) | ((with_reducible refine LdN.is ?_); refine Sat.ldN 0 h rfl _ rfl rfl ?_; conv => whnf))
  refine (onceQ_any (plainMem p) G k v i).callE hr (h.front 1 rfl) ⟨rfl, hok⟩ (Try.call40 _ _) fun w h => ?_
  clear hr
  conv => whnf
  repeat (refine Wr.any ?_; conv => whnf)
  refine h.newK fun X w h => ?_
  conv => whnf
  repeat (refine Wr.any ?_; conv => whnf)
  refine h.store 0 rfl rfl rfl rfl rfl ?_
  conv => whnf
  repeat (refine Wr.any ?_; conv => whnf)
  intro w h
  replace h : Sat β w [Plain p l', row X 33 [.int .i64 x.1, .int .i64 x.2], row A 61 [.int .u8 k, .int .i64 v.1, .int .i64 v.2, .int .i64 i], Lst β a c l, F] := h.keep [1, 0, 2, 3, 4]
  conv => whnf
  repeat (first | ((with_reducible refine CW.is ?_); (first | refine CW.run rfl ?_ | refine CW.go ?_); conv => whnf) | ((with_reducible refine Chk.is ?_); refine Chk.mk (by decide) ?_; conv => whnf) | ((with_reducible refine Ld.is ?_); refine Sat.ld 2 h rfl rfl ?_; conv => whnf))
  refine sel_mk (fun h1 => ?_) (fun h1 => ?_)
  · have h1 : k.tmod 6 = 0 := by simpa using h1
    rw [if_pos h1] at e1
    simp only [Prod.mk.injEq] at e1
    obtain ⟨⟨rfl, e2⟩, e3⟩ := e1
    have cc := cp true
    simp only [Bool.not_true, ← e2, ← e3] at cc
    clear cp ct cl ca e2 e3
    conv => whnf
    repeat (first | ((with_reducible refine CW.is ?_); refine CW.run rfl ?_; conv => whnf))
    rw [show decide (k.tmod 6 = 0) = true by simp [h1]]
    conv => whnf
    repeat (first | ((with_reducible refine CW.is ?_); refine CW.run rfl ?_; conv => whnf) | ((with_reducible refine Chk.is ?_); refine Chk.mk (by decide) ?_; conv => whnf) | ((with_reducible refine Ld.is ?_); refine Sat.ld 2 h rfl rfl ?_; conv => whnf) | ((with_reducible refine LdN.is ?_); refine Sat.ldN 2 h rfl _ rfl rfl ?_; conv => whnf))
    rw [show decide (k.tmod 6 = 0) = true by simp [h1]]
    refine CallF.ret (cc β w _ h (h.lstRds 3 rfl)) (Try.call76 _ _) ?_
    rintro _ w ⟨a', c', rfl, hf⟩
    refine ⟨_, rfl, ?_⟩
    refine Fresh.lstK 3 rfl hf ?_
    clear h hf
    conv => whnf
    intro h
    conv => whnf
    repeat (first | ((with_reducible refine CW.is ?_); refine CW.run rfl ?_; conv => whnf))
    exact ⟨a', c', by simp, h.keep [0, 3, 4]⟩
  have h1 : ¬ k.tmod 6 = 0 := by simpa using h1
  rw [if_neg h1] at e1
  conv => whnf
  repeat (first | ((with_reducible refine CW.is ?_); refine CW.run rfl ?_; conv => whnf))
  refine sel_mk (fun h2 => ?_) (fun h2 => ?_)
  · have h2 : k.tmod 6 = 1 := by simpa using h2
    rw [if_pos h2] at e1
    simp only [Prod.mk.injEq] at e1
    obtain ⟨⟨rfl, e2⟩, e3⟩ := e1
    have cc := cp false
    simp only [Bool.not_false, ← e2, ← e3] at cc
    clear cp ct cl ca e2 e3
    conv => whnf
    repeat (first | ((with_reducible refine CW.is ?_); refine CW.run rfl ?_; conv => whnf) | ((with_reducible refine Chk.is ?_); refine Chk.mk (by decide) ?_; conv => whnf) | ((with_reducible refine Ld.is ?_); refine Sat.ld 2 h rfl rfl ?_; conv => whnf) | ((with_reducible refine LdN.is ?_); refine Sat.ldN 2 h rfl _ rfl rfl ?_; conv => whnf))
    rw [show decide (k.tmod 6 = 0) = false by simp [h1]]
    refine CallF.ret (cc β w _ h (h.lstRds 3 rfl)) (Try.call76 _ _) ?_
    rintro _ w ⟨a', c', rfl, hf⟩
    refine ⟨_, rfl, ?_⟩
    refine Fresh.lstK 3 rfl hf ?_
    clear h hf
    conv => whnf
    intro h
    conv => whnf
    repeat (first | ((with_reducible refine CW.is ?_); refine CW.run rfl ?_; conv => whnf))
    exact ⟨a', c', by simp, h.keep [0, 3, 4]⟩
  have h2 : ¬ k.tmod 6 = 1 := by simpa using h2
  rw [if_neg h2] at e1
  conv => whnf
  repeat (first | ((with_reducible refine CW.is ?_); (first | refine CW.run rfl ?_ | refine CW.go ?_); conv => whnf))
  refine sel_mk (fun h3 => ?_) (fun h3 => ?_)
  · have h3 : k.tmod 6 = 2 := by simpa using h3
    rw [if_pos h3] at e1
    have cc := ct false
    simp only [Bool.not_false, ← e1] at cc
    clear cp ct cl ca e1
    conv => whnf
    repeat (first | ((with_reducible refine CW.is ?_); refine CW.run rfl ?_; conv => whnf))
    rw [show decide (k.tmod 6 = 2) = true by simp [h3]]
    conv => whnf
    repeat (first | ((with_reducible refine CW.is ?_); refine CW.run rfl ?_; conv => whnf) | ((with_reducible refine Chk.is ?_); refine Chk.mk (by decide) ?_; conv => whnf) | ((with_reducible refine Ld.is ?_); refine Sat.ld 2 h rfl rfl ?_; conv => whnf))
    rw [show decide (k.tmod 6 = 3) = false by simp [h3]]
    refine CallF.ret (cc β w _ h (h.lstRds 3 rfl)) (Try.call77 _ _) ?_
    rintro _ w ⟨a', c', rfl, hf⟩
    refine ⟨_, rfl, ?_⟩
    refine Fresh.lstK 3 rfl hf ?_
    clear h hf
    conv => whnf
    intro h
    conv => whnf
    repeat (first | ((with_reducible refine CW.is ?_); refine CW.run rfl ?_; conv => whnf) | ((with_reducible refine New.is ?_); refine Sat.newK h fun b w h => ?_; conv => whnf) | ((with_reducible refine LdN.is ?_); (first | refine Sat.ldN 0 h rfl _ rfl rfl ?_ | refine Sat.ldN 2 h rfl _ rfl rfl ?_); conv => whnf) | ((with_reducible refine EqP.is ?_); refine eqN (xs := (_, _)) (ys := (_, _)) ?_; conv => whnf) | ((with_reducible refine Runs.is ?_); refine Sat.store 0 h rfl rfl rfl rfl rfl ?_; (conv => whnf); intro w h; (conv => whnf)))
    refine sel_true (by simp) ?_
    conv => whnf
    repeat (first | ((with_reducible refine CW.is ?_); refine CW.run rfl ?_; conv => whnf))
    exact ⟨a', c', by simp, h.keep [1, 4, 5]⟩
  have h3 : ¬ k.tmod 6 = 2 := by simpa using h3
  rw [if_neg h3] at e1
  conv => whnf
  repeat (first | ((with_reducible refine CW.is ?_); refine CW.run rfl ?_; conv => whnf))
  refine sel_mk (fun h4 => ?_) (fun h4 => ?_)
  · have h4 : k.tmod 6 = 3 := by simpa using h4
    rw [if_pos h4] at e1
    have cc := ct true
    simp only [Bool.not_true, ← e1] at cc
    clear cp ct cl ca e1
    conv => whnf
    repeat (first | ((with_reducible refine CW.is ?_); refine CW.run rfl ?_; conv => whnf) | ((with_reducible refine Chk.is ?_); refine Chk.mk (by decide) ?_; conv => whnf) | ((with_reducible refine Ld.is ?_); refine Sat.ld 2 h rfl rfl ?_; conv => whnf))
    rw [show decide (k.tmod 6 = 3) = true by simp [h4]]
    refine CallF.ret (cc β w _ h (h.lstRds 3 rfl)) (Try.call77 _ _) ?_
    rintro _ w ⟨a', c', rfl, hf⟩
    refine ⟨_, rfl, ?_⟩
    refine Fresh.lstK 3 rfl hf ?_
    clear h hf
    conv => whnf
    intro h
    conv => whnf
    repeat (first | ((with_reducible refine CW.is ?_); refine CW.run rfl ?_; conv => whnf) | ((with_reducible refine New.is ?_); refine Sat.newK h fun b w h => ?_; conv => whnf) | ((with_reducible refine LdN.is ?_); (first | refine Sat.ldN 0 h rfl _ rfl rfl ?_ | refine Sat.ldN 2 h rfl _ rfl rfl ?_); conv => whnf) | ((with_reducible refine EqP.is ?_); refine eqN (xs := (_, _)) (ys := (_, _)) ?_; conv => whnf) | ((with_reducible refine Runs.is ?_); refine Sat.store 0 h rfl rfl rfl rfl rfl ?_; (conv => whnf); intro w h; (conv => whnf)))
    refine sel_true (by simp) ?_
    conv => whnf
    repeat (first | ((with_reducible refine CW.is ?_); refine CW.run rfl ?_; conv => whnf))
    exact ⟨a', c', by simp, h.keep [1, 4, 5]⟩
  have h4 : ¬ k.tmod 6 = 3 := by simpa using h4
  rw [if_neg h4] at e1
  conv => whnf
  repeat (first | ((with_reducible refine CW.is ?_); refine CW.run rfl ?_; conv => whnf))
  refine sel_mk (fun h5 => ?_) (fun h5 => ?_)
  · have h5 : k.tmod 6 = 4 := by simpa using h5
    rw [if_pos h5] at e1
    obtain ⟨x1, x2⟩ := x
    simp only [Prod.mk.injEq] at e1
    obtain ⟨⟨⟨e2, rfl⟩, e3⟩, rfl⟩ := e1
    rw [← e2, ← e3] at cl
    clear cp ct ca e2 e3
    conv => whnf
    repeat (first | ((with_reducible refine CW.is ?_); refine CW.run rfl ?_; conv => whnf))
    refine CallF.val (cl β w _ h (h.lstRds 3 rfl)) (Try.call78 _ _) fun w h => ?_
    conv => whnf
    repeat (first | ((with_reducible refine CW.is ?_); refine CW.run rfl ?_; conv => whnf) | ((with_reducible refine LdN.is ?_); refine Sat.ldN 1 h rfl _ rfl rfl ?_; conv => whnf) | ((with_reducible refine EqP.is ?_); refine eqN (xs := (_, _)) (ys := (_, _)) ?_; conv => whnf))
    refine sel_true (by simp) ?_
    conv => whnf
    repeat (first | ((with_reducible refine CW.is ?_); refine CW.run rfl ?_; conv => whnf))
    exact ⟨a, c, by simp, h.keep [0, 3, 4]⟩
  have h5 : ¬ k.tmod 6 = 4 := by simpa using h5
  rw [if_neg h5] at e1
  simp only [Prod.mk.injEq] at e1
  obtain ⟨e1, rfl⟩ := e1
  rw [← e1] at ca
  clear cp ct cl e1
  conv => whnf
  repeat (first | ((with_reducible refine CW.is ?_); refine CW.run rfl ?_; conv => whnf) | ((with_reducible refine Ld.is ?_); refine Sat.ld 2 h rfl rfl ?_; conv => whnf))
  refine CallF.val (ca β w _ h (h.lstRds 3 rfl)) (Try.call79 _ _) fun w h => ?_
  conv => whnf
  repeat (first | ((with_reducible refine CW.is ?_); refine CW.run rfl ?_; conv => whnf) | ((with_reducible refine New.is ?_); refine Sat.newK h fun b w h => ?_; conv => whnf) | ((with_reducible refine LdN.is ?_); (first | refine Sat.ldN 0 h rfl _ rfl rfl ?_ | refine Sat.ldN 2 h rfl _ rfl rfl ?_); conv => whnf) | ((with_reducible refine EqP.is ?_); refine eqN (xs := (_, _)) (ys := (_, _)) ?_; conv => whnf) | ((with_reducible refine Runs.is ?_); refine Sat.store 0 h rfl rfl rfl rfl rfl ?_; (conv => whnf); intro w h; (conv => whnf)))
  refine sel_true (by simp) ?_
  conv => whnf
  repeat (first | ((with_reducible refine CW.is ?_); refine CW.run rfl ?_; conv => whnf))
  exact ⟨a, c, by simp, h.keep [1, 4, 5]⟩

theorem actQ_ok {l : List Num} (hl : l.length ≤ 4096) (hok : l.all rightN = true) (k : Int) (v : Num) (i : Int) : (actQ l k v i).length = l.length ∧ (actQ l k v i).all rightN = true := by
  have := (goodP (N := l.length) (by omega) (by omega)).run (onceQ l.length k v i) l ⟨rfl, hok⟩
  exact ⟨by have := this.1; unfold actQ; omega, this.2⟩
theorem lawQueuePlays {β : World} {a : Option Addr} {c : Nat} {l : List Num} (hl : l.length ≤ 9223372036854775807) (hr : ∀ As, Rds β As 2 encN a l)
    {a2 : Option Addr} {c2 : Nat} {L : List Act5} (hL : L.length ≤ 9223372036854775807) (hr2 : ∀ As, Rds β As 4 encA5 a2 L) (hb : ∀ x ∈ L, okI x.2.2) :
    ∀ w, Sat β w [] → Calls Try.prog 10 #[.slice a l.length c, .slice a2 L.length c2] w fun e w' => e = .returned (.bool true) ∧ Sat β w' [] := by
  intro w h
  refine calls_W (args := [.slice a l.length c, .slice a2 L.length c2]) Try.func10 rfl rfl rfl ?_
  have r2 := fun w As h => ref2Right_any (c := c) hl β w As h (hr As)
  generalize e0 : (l.all rightN && decide (l.length ≤ 4096)) = ok at r2
  conv => whnf
  repeat (first | ((with_reducible refine CW.is ?_); refine CW.run rfl ?_; conv => whnf))
  refine CallF.val (r2 w _ h) (Try.call14 _ _) fun w h => ?_
  conv => whnf
  repeat (first | ((with_reducible refine CW.is ?_); refine CW.go ?_; conv => whnf))
  refine sel_mk (fun h1 => ?_) (fun h1 => ?_)
  · conv => whnf
    repeat (first | ((with_reducible refine CW.is ?_); refine CW.run rfl ?_; conv => whnf))
    refine alive5_any.call h (Try.call38 _ _) fun w h => ?_
    conv => whnf
    repeat (first | ((with_reducible refine CW.is ?_); refine CW.run rfl ?_; conv => whnf))
    exact ⟨rfl, h.drop⟩
  obtain rfl : ok = true := by simpa using h1
  have hok : l.all rightN = true ∧ l.length ≤ 4096 := by simpa [Bool.and_eq_true] using e0
  conv => whnf
  skip
  refine sel_mk (fun h1 => ?_) (fun h1 => ?_)
  · conv => whnf
    repeat (first | ((with_reducible refine CW.is ?_); refine CW.run rfl ?_; conv => whnf))
    refine alive5_any.call h (Try.call38 _ _) fun w h => ?_
    conv => whnf
    repeat (first | ((with_reducible refine CW.is ?_); refine CW.run rfl ?_; conv => whnf))
    exact ⟨rfl, h.drop⟩
  have hs : l.length ≤ 150 := by simp at h1; omega
  conv => whnf
  repeat (first | ((with_reducible refine CW.is ?_); refine CW.run rfl ?_; conv => whnf))
  refine sel_mk (fun h1 => ?_) (fun h1 => ?_)
  · conv => whnf
    repeat (first | ((with_reducible refine CW.is ?_); refine CW.run rfl ?_; conv => whnf))
    refine alive5_any.call h (Try.call38 _ _) fun w h => ?_
    conv => whnf
    repeat (first | ((with_reducible refine CW.is ?_); refine CW.run rfl ?_; conv => whnf))
    exact ⟨rfl, h.drop⟩
  have hsL : L.length ≤ 150 := by simp at h1; omega
  conv => whnf
  repeat (first | ((with_reducible refine CW.is ?_); refine CW.run rfl ?_; conv => whnf))
  refine CallF.ret (memLoad_any hok.1 hok.2 β w _ h (hr _)) (Try.call16 _ _) ?_
  rintro _ w ⟨p, rfl, h⟩
  refine ⟨_, rfl, ?_⟩
  conv => whnf
  repeat (first | ((with_reducible refine CW.is ?_); (first | refine CW.run rfl ?_ | refine CW.go ?_); conv => whnf))
  refine CW.loop [1, 6, 8, 9] (fun m vs w => ∃ (k : Nat) (cur : List Num) (a' : Option Addr) (c' : Nat) (F : Asrt), k ≤ L.length ∧ m = L.length - k ∧ cur.length = l.length ∧ cur.all rightN = true ∧
    vs = [.slice a2 L.length c2, ptr p, .slice a' cur.length c', .int .i64 k] ∧ Sat β w [Plain p cur, Lst β a' c' cur, F]) ?_ ?_
  · conv => whnf
    skip
    exact ⟨_, 0, l, a, c, Bag [], Nat.zero_le _, rfl, rfl, hok.1, rfl, Sat.bag2.1 ((h.lst_old hr).bring [1, 0])⟩
  clear h
  rintro _ _ w ⟨k, cur, a', c', F, hk, rfl, hcur, hcok, rfl, h⟩
  conv => whnf
  repeat (first | ((with_reducible refine CW.is ?_); (first | refine CW.run rfl ?_ | refine CW.go ?_); conv => whnf))
  refine sel_mk (fun h1 => ?_) (fun h1 => ?_)
  rotate_left
  · conv => whnf
    repeat (first | ((with_reducible refine CW.is ?_); refine CW.run rfl ?_; conv => whnf))
    refine alive5_any.call h (Try.call38 _ _) fun w h => ?_
    conv => whnf
    repeat (first | ((with_reducible refine CW.is ?_); refine CW.run rfl ?_; conv => whnf))
    exact ⟨rfl, h.drop⟩
  have hlt : k < L.length := by simpa using h1
  have hx := List.getElem?_eq_getElem hlt
  have hbx := hb _ (List.getElem_mem hlt)
  generalize L[k] = x at hx hbx
  obtain ⟨kk, v, i⟩ := x
  have ak := actQ_ok (l := cur) (by omega) hcok kk v i
  have ca := act5_any kk v i hbx (p := p) (a := a') (c := c') (l := cur) (by omega) hcok β
  generalize actQ cur kk v i = l' at ak ca
  conv => whnf
  repeat (first | ((with_reducible refine CW.is ?_); (first | refine CW.run rfl ?_ | refine CW.go ?_); conv => whnf))
  refine Chk.mk ⟨by omega, by omega, (hr2 []).okLt hlt⟩ ?_
  conv => whnf
  skip
  refine (hr2 _).ldN (i := k) h hx rfl (by simp) ?_
  conv => whnf
  skip
  refine CallF.ret (ca w _ h) (Try.call51 _ _) ?_
  rintro _ w ⟨a'', c'', rfl, h⟩
  refine ⟨_, rfl, ?_⟩
  conv => whnf
  repeat (first | ((with_reducible refine CW.is ?_); refine CW.run rfl ?_; conv => whnf))
  refine CallF.ret (memAll_any (b := p) (l := l') (by omega) β w _ h) (Try.call21 _ _) ?_
  rintro _ w ⟨a4, c4, rfl, h⟩
  refine ⟨_, rfl, ?_⟩
  conv => whnf
  repeat (first | ((with_reducible refine CW.is ?_); refine CW.run rfl ?_; conv => whnf))
  refine CallF.val (same_any (by omega) β w _ h (h.rds 0 rfl) (h.lstRds 2 rfl)) (Try.call24 _ _) fun w h => ?_
  conv => whnf
  repeat (first | ((with_reducible refine CW.is ?_); refine CW.run rfl ?_; conv => whnf))
  refine sel_false (by simp) ?_
  conv => whnf
  repeat (first | ((with_reducible refine CW.is ?_); refine CW.run rfl ?_; conv => whnf) | ((with_reducible refine Wr.is ?_); refine Wr.i64 (by omega) (by omega) ?_; conv => whnf))
  exact ⟨_, by omega, k + 1, l', a'', c'', F, by omega, rfl, by omega, ak.2, rfl, h.keep [1, 2, 3]⟩
end Go.Ev
