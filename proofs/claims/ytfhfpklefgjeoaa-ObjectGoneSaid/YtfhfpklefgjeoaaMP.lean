/- Programs over a memory: reads and writes, run on any memory. Conditions: none. -/
import Derived.Test.YtfhfpklefgjeoaaMemC
import Derived.Test.YtfhfpklefgjeoaaEvX
namespace Go.Ev
open Go Go.Proofs
set_option maxRecDepth 10000

inductive MP (α : Type) where
  | ret (a : α)
  | rd (i : Int) (k : Num → Int → MP α)
  | wr (i : Int) (v : Num) (k : Int → MP α)
namespace MP
def bind {α γ : Type} : MP α → (α → MP γ) → MP γ
  | .ret a, f => f a
  | .rd i k, f => .rd i fun x e => (k x e).bind f
  | .wr i v k, f => .wr i v fun e => (k e).bind f
section
variable {σ : Type} (rd : σ → Int → (Num × Int) × σ) (wr : σ → Int → Num → Int × σ)
def run {α : Type} : MP α → σ → α × σ
  | .ret a, s => (a, s)
  | .rd i k, s => (k (rd s i).1.1 (rd s i).1.2).run (rd s i).2
  | .wr i v k, s => (k (wr s i v).1).run (wr s i v).2
theorem run_bind {α γ : Type} : ∀ (p : MP α) (f : α → MP γ) (s : σ), (p.bind f).run rd wr s = (f (p.run rd wr s).1).run rd wr (p.run rd wr s).2
  | .ret a, f, s => rfl
  | .rd i k, f, s => run_bind (k _ _) f _
  | .wr i v k, f, s => run_bind (k _) f _
end
end MP

section
variable {σ : Type} {rd : σ → Int → (Num × Int) × σ} {wr : σ → Int → Num → Int × σ} {sz : σ → Int} {I : σ → Prop} {N : Int}
/-- A memory's own laws: how many cells, that numbers are right. -/
structure GoodM (rd : σ → Int → (Num × Int) × σ) (wr : σ → Int → Num → Int × σ) (sz : σ → Int) (I : σ → Prop) (N : Int) : Prop where
  pos : 0 ≤ N
  le : N ≤ 4096
  size : ∀ s, I s → sz s = N
  rd : ∀ s i, I s → I (rd s i).2 ∧ rightN (rd s i).1.1 = true
  wr : ∀ s i v, I s → I (wr s i v).2
theorem GoodM.run {α : Type} (G : GoodM rd wr sz I N) : ∀ (p : MP α) (s : σ), I s → I (p.run rd wr s).2
  | .ret a, s, h => h
  | .rd i k, s, h => G.run (k _ _) _ (G.rd s i h).1
  | .wr i v k, s, h => G.run (k _) _ (G.wr s i v h)

def IP (N : Int) (l : List Num) : Prop := (l.length : Int) = N ∧ l.all rightN = true
theorem rdN_right {l : List Num} (h : l.all rightN = true) (i : Int) : rightN (rdN l i).1 = true := by
  unfold rdN
  split
  · split
    · rename_i x hx
      exact List.all_eq_true.1 h x (List.mem_of_getElem? hx)
    · rfl
  · rfl
theorem wrN_right {l : List Num} (h : l.all rightN = true) (i : Int) (v : Num) : (wrN l i v).1.all rightN = true := by
  unfold wrN
  split
  · rename_i hv
    split
    · rw [List.all_eq_true] at *
      intro x hx
      rcases List.mem_or_eq_of_mem_set hx with h1 | rfl
      · exact h x h1
      · exact hv
    · exact h
  · exact h
theorem goodP {N : Int} (h0 : 0 ≤ N) (h1 : N ≤ 4096) : GoodM rdP wrP szP (IP N) N where
  pos := h0
  le := h1
  size := fun s h => h.1
  rd := fun s i h => ⟨h, rdN_right h.2 i⟩
  wr := fun s i v h => ⟨by show ((wrN s i v).1.length : Int) = N; rw [wrN_len]; exact h.1, wrN_right h.2 i v⟩
theorem goodF (G : GoodM rd wr sz I N) : GoodM (rdF rd) (wrF wr) (szF sz) (fun x => I x.2) N where
  pos := G.pos
  le := G.le
  size := fun s h => G.size s.2 h
  rd := fun s i h => by
    unfold rdF
    split
    · exact ⟨h, rfl⟩
    · exact G.rd s.2 i h
  wr := fun s i v h => by
    unfold wrF
    split
    · exact h
    · exact G.wr s.2 i v h

/-- A function of the program does, on a memory, what 'p' does. -/
def Does (T : Nat) (u : Value) (R : σ → Asrt) (rd : σ → Int → (Num × Int) × σ) (wr : σ → Int → Num → Int × σ) (I : σ → Prop) {α : Type} (f : FuncId) (args : List Value) (p : MP α) (out : α → Value) : Prop :=
  ∀ β w As s, Sat β w (R s :: As) → I s → Calls Try.prog f (.iface T u :: args).toArray w fun e w' => e = .returned (out (p.run rd wr s).1) ∧ Sat β w' (R (p.run rd wr s).2 :: As)
theorem Does.call {T : Nat} {u : Value} {R : σ → Asrt} {α : Type} {f : FuncId} {args : List Value} {p : MP α} {out : α → Value} {β w : World} {As : List Asrt} {s : σ} {K : Value → World → Prop}
    (h : Does T u R rd wr I f args p out) (hs : Sat β w (R s :: As)) (hi : I s) (hc : (callFunc f (.iface T u :: args).toArray).run Try.prog w = .ok (.enter f (.iface T u :: args).toArray) w)
    (k : ∀ w', Sat β w' (R (p.run rd wr s).2 :: As) → K (out (p.run rd wr s).1) w') : CallF Try.prog f (.iface T u :: args) w K := .val (h β w As s hs hi) hc k
theorem Does.callE {T : Nat} {u : Value} {R : σ → Asrt} {α : Type} {f : FuncId} {args : List Value} {p : MP α} {out : α → Value} {β w : World} {As : List Asrt} {s s' : σ} {a : α} {K : Value → World → Prop}
    (h : Does T u R rd wr I f args p out) (hr : p.run rd wr s = (a, s')) (hs : Sat β w (R s :: As)) (hi : I s) (hc : (callFunc f (.iface T u :: args).toArray).run Try.prog w = .ok (.enter f (.iface T u :: args).toArray) w)
    (k : ∀ w', Sat β w' (R s' :: As) → K (out a) w') : CallF Try.prog f (.iface T u :: args) w K := h.call hs hi hc (by rw [hr]; exact k)
theorem MemP.rdE {T : Nat} {u : Value} {R : σ → Asrt} {β w : World} {As : List Asrt} {s s' : σ} {i : Int} {x : Num} {e : Int} {K : Value → World → Prop} (M : MemP T u R rd wr sz) (hr : rd s i = ((x, e), s')) (h : Sat β w (R s :: As))
    (k : ∀ w', Sat β w' (R s' :: As) → K (.tuple #[vN x, .int .i64 e]) w') : CallM Try.prog (.iface T u) "Read" [.int .i64 i] w K := M.read β w As s i K h (by rw [hr]; exact k)
theorem MemP.wrE {T : Nat} {u : Value} {R : σ → Asrt} {β w : World} {As : List Asrt} {s s' : σ} {i : Int} {v : Num} {e : Int} {K : Value → World → Prop} (M : MemP T u R rd wr sz) (hr : wr s i v = (e, s')) (h : Sat β w (R s :: As))
    (k : ∀ w', Sat β w' (R s' :: As) → K (.int .i64 e) w') : CallM Try.prog (.iface T u) "Write" [.int .i64 i, vN v] w K := M.write β w As s i v K h (by rw [hr]; exact k)
theorem MemP.szE {T : Nat} {u : Value} {R : σ → Asrt} {β w : World} {As : List Asrt} {s : σ} {K : Value → World → Prop} (M : MemP T u R rd wr sz) (G : GoodM rd wr sz I N) (hi : I s) (h : Sat β w (R s :: As))
    (k : ∀ w', Sat β w' (R s :: As) → K (.int .i64 N) w') : CallM Try.prog (.iface T u) "Size" [] w K := M.size β w As s K h (by rw [G.size s hi]; exact k)
theorem GoodM.rdE {s s' : σ} {i : Int} {x : Num} {e : Int} (G : GoodM rd wr sz I N) (hr : rd s i = ((x, e), s')) (hi : I s) : I s' ∧ (-1048576 ≤ x.1 ∧ x.1 ≤ 1048576) ∧ -1048576 ≤ x.2 ∧ x.2 ≤ 1048576 := by
  have := G.rd s i hi
  rw [hr] at this
  exact ⟨this.1, rightN_iff.1 this.2⟩
theorem GoodM.wrE {s s' : σ} {i : Int} {v : Num} {e : Int} (G : GoodM rd wr sz I N) (hr : wr s i v = (e, s')) (hi : I s) : I s' := by
  have := G.wr s i v hi
  rw [hr] at this
  exact this
theorem GoodM.runE {α : Type} {p : MP α} {s s' : σ} {a : α} (G : GoodM rd wr sz I N) (hr : p.run rd wr s = (a, s')) (hi : I s) : I s' := by
  have := G.run p s hi
  rw [hr] at this
  exact this
theorem Does.mk {T : Nat} {u : Value} {R : σ → Asrt} {α : Type} {f : FuncId} {args : List Value} {p : MP α} {out : α → Value}
    (h : ∀ β w F s, Sat β w [R s, F] → I s → Calls Try.prog f (.iface T u :: args).toArray w fun e w' => e = .returned (out (p.run rd wr s).1) ∧ Sat β w' [R (p.run rd wr s).2, F]) : Does T u R rd wr I f args p out :=
  fun β w As s hs hi => (h β w (Bag As) s (Sat.bag.1 hs) hi).mono fun e w' ⟨h1, h2⟩ => ⟨h1, Sat.bag.2 h2⟩
theorem gRight1 {β w : World} {As : List Asrt} {b : Nat} {v : Num} {K : Value → World → Prop} (h : Sat β w (row b 33 [.int .i64 v.1, .int .i64 v.2] :: As))
    (kt : rightN v = true → ∀ w', Sat β w' As → K (.bool true) w') (kf : rightN v = false → ∀ w', Sat β w' As → K (.bool false) w') : CallF Try.prog 55 [.slice (some ⟨b, 0, none⟩) 1 1] w K := by
  have h := h.own_of (sz := 2) (enc := encN) [v] rfl (fun _ _ => rfl)
  refine CallF.val (gRight_any (l := [v]) (by simp) β w _ h (h.rds 0 rfl)) (Try.call55 _ _) fun w h => ?_
  have e1 : [v].all rightN = rightN v := by simp
  rw [e1]
  cases hv : rightN v
  · exact kf hv w h.tail
  · exact kt hv w h.tail
abbrev oNE (r : Num × Int) : Value := .tuple #[vN r.1, .int .i64 r.2]
abbrev oE (r : Int) : Value := .int .i64 r

/-- Stopped: once an access tells ErrStop, the program ends at once, and tells a thing of 'Z'. -/
def Strict {α : Type} (Z : α → Prop) : MP α → Prop
  | .ret _ => True
  | .rd _ k => (∃ a, k (0, 0) 41 = .ret a ∧ Z a) ∧ ∀ x e, Strict Z (k x e)
  | .wr _ _ k => (∃ a, k 41 = .ret a ∧ Z a) ∧ ∀ e, Strict Z (k e)
theorem Strict.bind {α γ : Type} {Z : α → Prop} {Y : γ → Prop} {f : α → MP γ} (hz : ∀ a, Z a → ∃ b, f a = .ret b ∧ Y b) (hf : ∀ a, Strict Y (f a)) : ∀ (p : MP α), Strict Z p → Strict Y (p.bind f)
  | .ret a, _ => hf a
  | .rd i k, ⟨⟨a, h1, h2⟩, h3⟩ => by
    refine ⟨?_, fun x e => Strict.bind hz hf _ (h3 x e)⟩
    obtain ⟨b, hb, hy⟩ := hz a h2
    exact ⟨b, by simp only [h1]; exact hb, hy⟩
  | .wr i v k, ⟨⟨a, h1, h2⟩, h3⟩ => by
    refine ⟨?_, fun e => Strict.bind hz hf _ (h3 e)⟩
    obtain ⟨b, hb, hy⟩ := hz a h2
    exact ⟨b, by simp only [h1]; exact hb, hy⟩
/-- On a memory that stops: all as on the other one, or stopped. -/
theorem Strict.stops {α : Type} {Z : α → Prop} : ∀ (p : MP α), Strict Z p → ∀ (n : Nat) (s : σ),
    ((p.run (rdF rd) (wrF wr) (n, s)).1 = (p.run rd wr s).1 ∧ (p.run (rdF rd) (wrF wr) (n, s)).2.2 = (p.run rd wr s).2) ∨ (Z (p.run (rdF rd) (wrF wr) (n, s)).1 ∧ (p.run (rdF rd) (wrF wr) (n, s)).2.1 = 0)
  | .ret a, _, n, s => .inl ⟨rfl, rfl⟩
  | .rd i k, ⟨⟨a, h1, h2⟩, h3⟩, n, s => by
    by_cases hn : n = 0
    · right
      have e : rdF rd (n, s) i = (((0, 0), 41), (n, s)) := by unfold rdF; rw [if_pos hn]
      simp only [MP.run, e, h1]
      exact ⟨h2, hn⟩
    · have e : rdF rd (n, s) i = ((rd s i).1, (n - 1, (rd s i).2)) := by unfold rdF; rw [if_neg hn]
      simp only [MP.run, e]
      exact Strict.stops _ (h3 _ _) (n - 1) _
  | .wr i v k, ⟨⟨a, h1, h2⟩, h3⟩, n, s => by
    by_cases hn : n = 0
    · right
      have e : wrF wr (n, s) i v = (41, (n, s)) := by unfold wrF; rw [if_pos hn]
      simp only [MP.run, e, h1]
      exact ⟨h2, hn⟩
    · have e : wrF wr (n, s) i v = ((wr s i v).1, (n - 1, (wr s i v).2)) := by unfold wrF; rw [if_neg hn]
      simp only [MP.run, e]
      exact Strict.stops _ (h3 _) (n - 1) _
end

/-- A list that is read: of old memory, or owned. -/
def Lst (β : World) (a : Option Addr) (c : Nat) (l : List Num) : Asrt := fun h => (h = [] ∧ ∀ As, Rds β As 2 encN a l) ∨ Own 33 2 encN a c l h
section
variable {β w : World} {As : List Asrt} {a a' : Option Addr} {c c' : Nat} {l l' : List Num}
theorem Sat.lst_old (h : Sat β w As) (hr : ∀ As, Rds β As 2 encN a l) : Sat β w (Lst β a c l :: As) := by
  obtain ⟨hb, hh, hs, hf⟩ := h.out
  exact .mk' hb ([] ++ hh) ⟨[], hh, rfl, .inl ⟨rfl, hr⟩, hs⟩ (by simpa using hf)
theorem Sat.lst_own (h : Sat β w (Own 33 2 encN a c l :: As)) : Sat β w (Lst β a c l :: As) := by
  obtain ⟨hb, hh, ⟨h1, h2, rfl, ho, hs⟩, hf⟩ := h.out
  exact .mk' hb _ ⟨h1, h2, rfl, .inr ho, hs⟩ hf
theorem Sat.lst_cases (h : Sat β w (Lst β a c l :: As)) : (∀ As, Rds β As 2 encN a l) ∨ Sat β w (Own 33 2 encN a c l :: As) := by
  obtain ⟨hb, hh, ⟨h1, h2, rfl, ho, hs⟩, hf⟩ := h.out
  rcases ho with ⟨rfl, hr⟩ | ho
  · exact .inl hr
  · exact .inr (.mk' hb _ ⟨h1, h2, rfl, ho, hs⟩ hf)
theorem Sat.lstRds (i : Nat) (h : Sat β w As) (hA : As[i]? = some (Lst β a c l)) : Rds β As 2 encN a l := by
  intro k x hx
  have key : ∀ w, Sat β w As → okA a ∧ ∀ j, j < 2 → w.cell? ⟨blk a, off a + k * 2 + j, none⟩ = (encN x)[j]? := by
    intro w hs
    rcases (hs.front i hA).lst_cases with hr | ho
    · exact ⟨(hr [] k x hx).1, fun j hj => (hr As k x hx).2 j hj w hs⟩
    · have hr := ho.rds 0 rfl
      exact ⟨(hr k x hx).1, fun j hj => (hr k x hx).2 j hj w ho⟩
  exact ⟨(key w h).1, fun j hj w hw => (key w hw).2 j hj⟩

/-- An element; nothing, where there is none. -/
def gN (l : List Num) (i : Int) : Num := l.getD i.toNat (0, 0)
theorem gN_get {n : Int} (h0 : 0 ≤ n) (h1 : n < l.length) : l[n.toNat]? = some (gN l n) := by
  unfold gN
  rw [List.getD_eq_getElem?_getD]
  have : n.toNat < l.length := by omega
  rw [List.getElem?_eq_getElem this]; rfl
theorem Rds.chkR {n : Int} {K : Prop} (hr : Rds β As 2 encN a l) (h0 : 0 ≤ n) (h1 : n < l.length) (k : K) : Chk (0 ≤ n ∧ n < (l.length : Int) ∧ okA a) K := .mk ⟨h0, h1, hr.okLt (i := 0) (by omega)⟩ k
theorem Rds.ldNR {n : Int} {q : Nat} {K : List Value → Prop} (hr : Rds β As 2 encN a l) (h : Sat β w As) (hq : q = off a + n.toNat * 2) (h0 : 0 ≤ n) (h1 : n < l.length) (k : K (encN (gN l n))) : LdN w ⟨blk a, q, none⟩ 2 K := hr.ldN h (gN_get h0 h1) rfl hq k
theorem Rds.ldR0 {n : Int} {q : Nat} {K : Value → Prop} (hr : Rds β As 2 encN a l) (h : Sat β w As) (hq : q = off a + n.toNat * 2 + 0) (h0 : 0 ≤ n) (h1 : n < l.length) (k : K (.int .i64 (gN l n).1)) : Ld w ⟨blk a, q, none⟩ K := hr.ld (j := 0) h (gN_get h0 h1) (by omega) rfl hq k
theorem Rds.ldR1 {n : Int} {q : Nat} {K : Value → Prop} (hr : Rds β As 2 encN a l) (h : Sat β w As) (hq : q = off a + n.toNat * 2 + 1) (h0 : 0 ≤ n) (h1 : n < l.length) (k : K (.int .i64 (gN l n).2)) : Ld w ⟨blk a, q, none⟩ K := hr.ld (j := 1) h (gN_get h0 h1) (by omega) rfl hq k
theorem Fresh.lstK {G : Prop} (i : Nat) (hA : As[i]? = some (Lst β a c l)) (h : Fresh β w As a c l a' c' l') (k : setLW As i (Lst β a' c' l') fun As' => Sat β w As' → G) : G := by
  refine setLW_eq _ _ _ k ?_
  rcases h with ⟨rfl, rfl, rfl, h⟩ | h
  · have : As.set i (Lst β a' c' l') = As := by
      refine List.ext_getElem? fun j => ?_
      rw [List.getElem?_set]
      split
      · rename_i e; subst e
        split
        · exact hA.symm
        · rename_i hlt
          rw [List.getElem?_eq_none (by omega)]
      · rfl
    rw [this]; exact h
  · have h1 := h.lst_own
    have h2 : Sat β w (Lst β a c l :: Lst β a' c' l' :: As.eraseIdx i) := (h1.perm ((getElem_mem_perm As i _ hA).cons _)).f1
    exact Sat.turn i hA h2.tail
/-- Reads of a plain memory. -/
theorem rdP_in {i : Int} (h0 : 0 ≤ i) (h1 : i < l.length) : rdP l i = ((gN l i, 0), l) := by
  unfold rdP
  have : i.toNat < l.length := by omega
  rw [rdN_in h0 this]
  unfold gN
  rw [List.getD_eq_getElem?_getD, List.getElem?_eq_getElem this]; rfl
theorem wrP_in {i : Int} {v : Num} (hv : rightN v = true) (h0 : 0 ≤ i) (h1 : i < l.length) : wrP l i v = (0, l.set i.toNat v) := by
  unfold wrP
  rw [wrN_in hv h0 h1]
theorem gN_right {i : Int} (h : l.all rightN = true) : rightN (gN l i) = true := by
  unfold gN
  rw [List.getD_eq_getElem?_getD]
  cases hx : l[i.toNat]? with
  | none => rfl
  | some x => exact List.all_eq_true.1 h x (List.mem_of_getElem? hx)
end
end Go.Ev
