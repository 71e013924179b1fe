/- A small separation logic over the kit's walk: heaps, lists of assertions, what a world satisfies. -/
import Derived.Orders
import Derived.KernelRfl
namespace Go.Gv
set_option linter.unusedVariables false
set_option linter.unusedSimpArgs false
set_option linter.unusedSectionVars false

/-- A part of the heap. -/
abbrev Heap := Nat → Option Obj
def hp (w : World) : Heap := fun b => w.heap[b]?
def Hsub (h g : Heap) : Prop := ∀ b o, h b = some o → g b = some o
def Hdis (h g : Heap) : Prop := ∀ b, h b = none ∨ g b = none
def hun (h g : Heap) : Heap := fun b => (h b).or (g b)
abbrev HP := Heap → Prop

theorem Hsub.refl (h : Heap) : Hsub h h := fun _ _ e => e
theorem Hsub.trans {a b c : Heap} (h : Hsub a b) (k : Hsub b c) : Hsub a c := fun _ _ e => k _ _ (h _ _ e)
theorem Hdis.symm {a b : Heap} (h : Hdis a b) : Hdis b a := fun x => (h x).symm
theorem Hdis.sub {a b a' b' : Heap} (h : Hdis a b) (ha : Hsub a' a) (hb : Hsub b' b) : Hdis a' b' := by
  intro x
  rcases h x with e | e
  · left; cases e' : a' x with
    | none => rfl
    | some o => rw [ha _ _ e'] at e; cases e
  · right; cases e' : b' x with
    | none => rfl
    | some o => rw [hb _ _ e'] at e; cases e
theorem hun_left (a b : Heap) : Hsub a (hun a b) := fun x o e => by simp [hun, e]
theorem hun_right {a b : Heap} (h : Hdis a b) : Hsub b (hun a b) := fun x o e => by
  rcases h x with e' | e'
  · simp [hun, e', e]
  · rw [e] at e'; cases e'
theorem hun_sub {a b c : Heap} (ha : Hsub a c) (hb : Hsub b c) : Hsub (hun a b) c := fun x o e => by
  unfold hun at e
  cases ea : a x with
  | none => rw [ea] at e; exact hb _ _ (by simpa using e)
  | some v => rw [ea] at e; simp at e; subst e; exact ha _ _ ea
theorem hun_dis {a b c : Heap} (ha : Hdis a c) (hb : Hdis b c) : Hdis (hun a b) c := fun x => by
  rcases ha x with e | e
  · rcases hb x with e' | e'
    · left; simp [hun, e, e']
    · exact .inr e'
  · exact .inr e
theorem dis_hun {a b c : Heap} (ha : Hdis c a) (hb : Hdis c b) : Hdis c (hun a b) := (hun_dis ha.symm hb.symm).symm

/-- All of these, each in a part of its own. -/
def stars : List HP → HP
  | [] => fun _ => True
  | A :: L => fun h => ∃ h1 h2, Hdis h1 h2 ∧ Hsub h1 h ∧ Hsub h2 h ∧ A h1 ∧ stars L h2

theorem stars_up : ∀ {L : List HP} {h g : Heap}, stars L h → Hsub h g → stars L g
  | [], _, _, _, _ => trivial
  | _ :: _, _, _, ⟨h1, h2, d, s1, s2, a, l⟩, s => ⟨h1, h2, d, s1.trans s, s2.trans s, a, l⟩

theorem stars_app : ∀ {L K : List HP} {h : Heap}, stars (L ++ K) h ↔ ∃ h1 h2, Hdis h1 h2 ∧ Hsub h1 h ∧ Hsub h2 h ∧ stars L h1 ∧ stars K h2
  | [], K, h => ⟨fun k => ⟨fun _ => none, h, fun _ => .inl rfl, (fun _ _ e => by cases e), Hsub.refl _, trivial, k⟩, fun ⟨_, _, _, _, s2, _, k⟩ => stars_up k s2⟩
  | A :: L, K, h => by
    constructor
    · rintro ⟨h1, h2, d, s1, s2, a, l⟩
      obtain ⟨g1, g2, d', t1, t2, l1, l2⟩ := stars_app.1 l
      exact ⟨hun h1 g1, g2, hun_dis (d.sub (.refl _) t2) d', hun_sub s1 (t1.trans s2), t2.trans s2,
        ⟨h1, g1, d.sub (.refl _) t1, hun_left _ _, hun_right (d.sub (.refl _) t1), a, l1⟩, l2⟩
    · rintro ⟨h1, h2, d, s1, s2, ⟨g1, g2, d', t1, t2, a, l⟩, k⟩
      exact ⟨g1, hun g2 h2, dis_hun d' (d.sub t1 (.refl _)), t1.trans s1, hun_sub (t2.trans s1) s2, a,
        stars_app.2 ⟨g2, h2, d.sub t2 (.refl _), hun_left _ _, hun_right (d.sub t2 (.refl _)), l, k⟩⟩

theorem stars_perm {L K : List HP} (p : L.Perm K) : ∀ {h : Heap}, stars L h → stars K h := by
  induction p with
  | nil => exact fun h => h
  | cons x _ ih => rintro h ⟨h1, h2, d, s1, s2, a, l⟩; exact ⟨h1, h2, d, s1, s2, a, ih l⟩
  | swap x y l =>
    rintro h ⟨h1, h2, d, s1, s2, a, g1, g2, d', t1, t2, b, l⟩
    exact ⟨g1, hun h1 g2, dis_hun (d.symm.sub t1 (.refl _)) d', t1.trans s2, hun_sub s1 (t2.trans s2), b, h1, g2, d.sub (.refl _) t2, hun_left _ _, hun_right (d.sub (.refl _) t2), a, l⟩
  | trans _ _ ih1 ih2 => exact fun h => ih2 (ih1 h)

/-- One list of assertions entails another one. -/
def Ent (L K : List HP) : Prop := ∀ h, stars L h → stars K h
theorem Ent.refl (L : List HP) : Ent L L := fun _ h => h
theorem Ent.trans {L K J : List HP} (a : Ent L K) (b : Ent K J) : Ent L J := fun _ h => b _ (a _ h)
theorem Ent.perm {L K : List HP} (p : L.Perm K) : Ent L K := fun _ h => stars_perm p h
theorem Ent.app {L K F : List HP} (a : Ent L K) : Ent (L ++ F) (K ++ F) := fun h k => by
  obtain ⟨h1, h2, d, s1, s2, x, y⟩ := stars_app.1 k
  exact stars_app.2 ⟨h1, h2, d, s1, s2, a _ x, y⟩
theorem Ent.cons {A : HP} {L K : List HP} (a : Ent L K) : Ent (A :: L) (A :: K) := fun h ⟨h1, h2, d, s1, s2, x, l⟩ => ⟨h1, h2, d, s1, s2, x, a _ l⟩
theorem Ent.drop {A : HP} {L : List HP} : Ent (A :: L) L := fun h ⟨_, _, _, _, s2, _, l⟩ => stars_up l s2
theorem Ent.head {A B : HP} {L : List HP} (a : ∀ h, A h → B h) : Ent (A :: L) (B :: L) := fun h ⟨h1, h2, d, s1, s2, x, l⟩ => ⟨h1, h2, d, s1, s2, a _ x, l⟩

/-- A world that has the immutable part M, and beside it the assertions L. -/
structure Sat (M : Heap) (L : List HP) (w : World) : Prop where
  imm : Hsub M (hp w)
  own : ∃ h, Hsub h (hp w) ∧ Hdis M h ∧ stars L h

theorem Sat.ent {M : Heap} {L K : List HP} {w : World} (s : Sat M L w) (e : Ent L K) : Sat M K w :=
  ⟨s.imm, let ⟨h, a, b, c⟩ := s.own; ⟨h, a, b, e _ c⟩⟩
theorem Sat.perm {M : Heap} {L K : List HP} {w : World} (s : Sat M L w) (p : L.Perm K) : Sat M K w := s.ent (.perm p)

/-- What M holds for good, read as an assertion. -/
def Ro (M : Heap) (A : HP) : Prop := ∃ h, Hsub h M ∧ A h
theorem Ro.up {M N : Heap} {A : HP} (r : Ro M A) (s : Hsub M N) : Ro N A := let ⟨h, a, b⟩ := r; ⟨h, a.trans s, b⟩

/-- What stays of the world outside of the heap. -/
structure Env (w w' : World) : Prop where
  os : w'.os = w.os
  tape : w'.tape = w.tape
  output : w'.output = w.output
  size : w.heap.size ≤ w'.heap.size
theorem Env.refl (w : World) : Env w w := ⟨rfl, rfl, rfl, Nat.le_refl _⟩
theorem frz_push {w w' : World} {o : Obj} (hh : w'.heap = w.heap.push o) (ho : ∀ c t z, o = .cells c t z → z = (0, 0)) (a : Go.Addr) : w'.frozen? a = w.frozen? a := by
  unfold World.frozen?
  rw [hh]
  by_cases h : a.block = w.heap.size
  · have e1 : (w.heap.push o)[a.block]? = some o := by rw [h]; simp
    have e2 : w.heap[a.block]? = none := by rw [h]; simp
    rw [e1, e2]
    cases o with
    | cells c t z => have := ho c t z rfl; subst this; simp
    | _ => rfl
  · have : (w.heap.push o)[a.block]? = w.heap[a.block]? := by rw [Array.getElem?_push]; simp [h]
    rw [this]
theorem frz_same {w w' : World} (hh : w'.heap = w.heap) (a : Go.Addr) : w'.frozen? a = w.frozen? a := by unfold World.frozen?; rw [hh]
theorem frz_set (w : World) (b : Go.Addr) (v : Value) (a : Go.Addr) : (w.setCell b v).frozen? a = w.frozen? a := by
  unfold World.frozen? World.setCell
  simp only [Array.getElem?_modify]
  by_cases h : b.block = a.block
  · rw [if_pos h]
    cases hx : w.heap[a.block]? with
    | none => rfl
    | some o => cases o <;> rfl
  · rw [if_neg h]
theorem Env.trans {a b c : World} (h : Env a b) (k : Env b c) : Env a c :=
  ⟨k.os.trans h.os, k.tape.trans h.tape, k.output.trans h.output, Nat.le_trans h.size k.size⟩

/-- Lend what is owned: it is immutable as long as the callee works. -/
theorem Sat.lend {M : Heap} {B : HP} {L : List HP} {w : World} (s : Sat M (B :: L) w) :
    ∃ N, Hsub M N ∧ Ro N B ∧ Sat N L w ∧ ∀ L' w', Sat N L' w' → Sat M (B :: L') w' := by
  obtain ⟨hM, h, hs, hd, h1, h2, d, s1, s2, b, l⟩ := s
  refine ⟨hun M h1, hun_left _ _, ⟨h1, hun_right (hd.sub (.refl _) s1), b⟩, ⟨hun_sub hM (s1.trans hs), h2, s2.trans hs, hun_dis (hd.sub (.refl _) s2) d, l⟩, ?_⟩
  rintro L' w' ⟨hN, g, gs, gd, gl⟩
  have hM1 : Hdis M h1 := hd.sub (.refl _) s1
  exact ⟨(hun_left _ _).trans hN, hun h1 g, hun_sub ((hun_right hM1).trans hN) gs,
    dis_hun hM1 (gd.sub (hun_left _ _) (.refl _)), h1, g, gd.sub (hun_right hM1) (.refl _), hun_left _ _, hun_right (gd.sub (hun_right hM1) (.refl _)), b, gl⟩

/-- One block. -/
def pts (b : Nat) (o : Obj) : HP := fun h => h b = some o

theorem Sat.block {M : Heap} {b : Nat} {o : Obj} {L : List HP} {w : World} (s : Sat M (pts b o :: L) w) : w.heap[b]? = some o := by
  obtain ⟨_, h, hs, _, h1, _, _, s1, _, p, _⟩ := s
  exact (s1.trans hs) _ _ p
theorem Ro.block {M : Heap} {b : Nat} {o : Obj} {L : List HP} {w : World} (r : Ro M (pts b o)) (s : Sat M L w) : w.heap[b]? = some o := by
  obtain ⟨h, a, p⟩ := r
  exact (a.trans s.imm) _ _ p

/-- What one learns of an assertion in the list. -/
theorem Sat.fact {M : Heap} {A : HP} {L : List HP} {w : World} {p : Prop} (s : Sat M (A :: L) w) (h : ∀ g, A g → p) : p := by
  obtain ⟨_, _, _, _, h1, _, _, _, _, a, _⟩ := s
  exact h _ a

theorem dis_none_of_mem {a b : Heap} {x : Nat} {o : Obj} (h : Hdis a b) (e : a x = some o) : b x = none := (h x).resolve_left (by rw [e]; simp)

/-- The heap has grown by one block. -/
theorem Sat.new {M : Heap} {L : List HP} {w w' : World} (o : Obj) (s : Sat M L w) (hw : w'.heap = w.heap.push o) : Sat M (pts w.heap.size o :: L) w' := by
  have hlt : ∀ b x, hp w b = some x → b < w.heap.size := fun b x e => (Array.getElem?_eq_some_iff.1 e).1
  have hup : Hsub (hp w) (hp w') := fun b x e => by
    have := hlt b x e
    simp only [hp, hw] at *
    rw [Array.getElem?_push_lt this]
    simpa [Array.getElem?_eq_getElem this] using e
  obtain ⟨hM, h, hs, hd, l⟩ := s
  have hn : ∀ (g : Heap), Hsub g (hp w) → g w.heap.size = none := fun g gs => by
    cases e : g w.heap.size with
    | none => rfl
    | some x => exact absurd (hlt _ _ (gs _ _ e)) (by omega)
  refine ⟨hM.trans hup, fun b => if b = w.heap.size then some o else h b, ?_, ?_, fun b => if b = w.heap.size then some o else none, h, ?_, ?_, ?_, ?_, l⟩
  · intro b x e
    dsimp only at e
    split at e
    · rename_i hb; subst hb; simp only [hp, hw]; simpa using e
    · exact (hs.trans hup) _ _ e
  · intro b
    by_cases hb : b = w.heap.size
    · subst hb; exact .inl (hn M hM)
    · simp only [hb, if_false]; exact hd b
  · intro b
    by_cases hb : b = w.heap.size
    · subst hb; exact .inr (hn h hs)
    · simp [hb]
  · intro b x e
    dsimp only at e ⊢
    split at e
    · rename_i hb; simpa [hb] using e
    · cases e
  · intro b x e
    have : b ≠ w.heap.size := fun hb => by rw [hb, hn h hs] at e; cases e
    simp [this, e]
  · simp [pts]

/-- A block of one's own has changed. -/
theorem Sat.set {M : Heap} {L : List HP} {w w' : World} {b : Nat} {o o' : Obj} (s : Sat M (pts b o :: L) w) (hw : ∀ x, w'.heap[x]? = if x = b then some o' else w.heap[x]?) : Sat M (pts b o' :: L) w' := by
  obtain ⟨hM, h, hs, hd, h1, h2, d, s1, s2, p, l⟩ := s
  have hb1 : h b = some o := s1 _ _ p
  have hMb : M b = none := (hd b).resolve_right (by rw [hb1]; simp)
  have h2b : h2 b = none := (d b).resolve_left (by rw [p]; simp)
  have keep : ∀ g : Heap, g b = none → Hsub g (hp w) → Hsub g (hp w') := fun g gb gs x y e => by
    have hx : x ≠ b := fun hx => by rw [hx, gb] at e; cases e
    simp only [hp, hw, hx, if_false]
    exact gs _ _ e
  refine ⟨keep M hMb hM, fun x => if x = b then some o' else h2 x, ?_, ?_, fun x => if x = b then some o' else none, h2, ?_, ?_, ?_, by simp [pts], l⟩
  · intro x y e
    dsimp only at e
    split at e
    · rename_i hx; subst hx; simp only [hp, hw]; simpa using e
    · exact keep h2 h2b (s2.trans hs) _ _ e
  · intro x
    by_cases hx : x = b
    · subst hx; exact .inl hMb
    · simp only [hx, if_false]; exact hd.sub (.refl _) s2 x
  · intro x
    by_cases hx : x = b
    · subst hx; exact .inr h2b
    · simp [hx]
  · intro x y e
    dsimp only at e ⊢
    split at e
    · rename_i hx; simpa [hx] using e
    · cases e
  · intro x y e
    have : x ≠ b := fun hx => by rw [hx, h2b] at e; cases e
    simp [this, e]

/-- The heap is as it was. -/
theorem Sat.same {M : Heap} {L : List HP} {w w' : World} (s : Sat M L w) (hw : w'.heap = w.heap) : Sat M L w' := by
  obtain ⟨a, h, b, c⟩ := s
  have : hp w' = hp w := by funext x; simp [hp, hw]
  exact ⟨this ▸ a, h, this ▸ b, c⟩

end Go.Gv
