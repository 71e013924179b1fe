/- Gathering the keys of a map of one entry at most: what the machine takes as told. -/
import Derived.Test.YtnennjhbajpbfaaGreatDoorGvR3
namespace Go.Gv
set_option linter.unusedVariables false
set_option linter.unusedSimpArgs false
set_option linter.unusedSectionVars false
section
variable {P : Program} {T : TT P} {E : EqT} {G : GT} {M : Heap} {ρ ρ' : Rho} {h h' : Hp} {F : List HP} {w w' : World} {N : Nat} {tm tm' : Tm} {arr : Array Oper} {call : CallF} {e : TEnv} {L : List HP} {r : Operand → SV}

/-- The box and the map, by names of their own. -/
def hk0 (el : Nat) (opn : Option (Nat × Nat)) (fz : Nat) (es : List (SV × SV × Nat)) (clk : Nat) : Hp := hset (hset .lf 1 (.map es clk)) 0 (.cells el [.m 1] opn fz)
def rho0 (ρ : Rho) (b c : Nat) : Rho := fun n => if n = 0 then ρ b else ρ c
theorem hk0_ok {el : Nat} {opn : Option (Nat × Nat)} {fz : Nat} {es : List (SV × SV × Nat)} {clk : Nat} (hes : ∀ e ∈ es, okV (fun _ => False) e.1 ∧ okV (fun _ => False) e.2.1) : okHp (hk0 el opn fz es clk) := by
  have h0 : okHp (.lf : Hp) := fun n c o q => by cases q
  have h1 : okHp (hset .lf 1 (.map es clk)) := okHp_set h0 (by omega) fun e he => ⟨okV_up (fun _ q => q.elim) _ (hes e he).1, okV_up (fun _ q => q.elim) _ (hes e he).2⟩
  exact okHp_set h1 (by omega) ⟨dom_set (dom_self (by omega)), trivial⟩
theorem ent_true {A : HP} {R : List HP} (hA : ∀ g, A g) : Ent R (A :: R) := fun g s => ⟨fun _ => none, g, (fun _ => .inl rfl), (fun _ _ q => by cases q), Hsub.refl g, hA _, s⟩
theorem Ent.app2 {L K X Y : List HP} (a : Ent L K) (b : Ent X Y) : Ent (L ++ X) (K ++ Y) := fun h x => by
  obtain ⟨h1, h2, d, s1, s2, p, q⟩ := stars_app.1 x
  exact stars_app.2 ⟨h1, h2, d, s1, s2, a _ p, b _ q⟩
/-- Out of the heap, and back. -/
theorem bridge {b c el fz clk : Nat} {opn : Option (Nat × Nat)} {es es' : List (SV × SV × Nat)} (e1 : hget h b = some (.cells el [.m c] opn fz)) (e2 : hget h c = some (.map es clk)) (hes : es.map (entryOf ρ) = es'.map (entryOf (rho0 ρ b c))) :
    ∃ R, Ent (objs ρ h) (objs (rho0 ρ b c) (hk0 el opn fz es' clk) ++ R) ∧ Ent (objs (rho0 ρ b c) (hk0 el opn fz es' clk) ++ R) (objs ρ h) := by
  obtain ⟨g1, l1⟩ := hget_spec e1
  obtain ⟨g2, l2⟩ := hget_spec e2
  have hne : c ≠ b := by
    rintro rfl
    rw [e1] at e2
    cases e2
  obtain ⟨R1, p1, q1⟩ := objs_set ρ 12 h b b _ (p12 l1) g1
  have g2' : (Tri.set 12 h b (b, .gone)).get c = some (c, .map es clk) := by rw [Tri.get_set_ne _ _ _ _ _ hne]; exact g2
  obtain ⟨R2, p2, _⟩ := objs_set ρ 12 _ c c _ (p12 l2) g2'
  have pp : (objP ρ b .gone :: R1).Perm (objP ρ c (.map es clk) :: R2) := (q1 b .gone).symm.trans p2
  have hL : objs (rho0 ρ b c) (hk0 el opn fz es' clk) = [objP ρ b (.cells el [.m c] opn fz), objP ρ c (.map es clk)] := by
    have a1 : objs (rho0 ρ b c) (hk0 el opn fz es' clk) = [objP (rho0 ρ b c) 0 (.cells el [.m 1] opn fz), objP (rho0 ρ b c) 1 (.map es' clk)] := rfl
    have a2 : objP (rho0 ρ b c) 1 (.map es' clk) = objP ρ c (.map es clk) := by
      funext g
      show (g _ = _) = (g _ = _)
      rw [hes]; rfl
    rw [a1, a2]; rfl
  rw [hL]
  refine ⟨R2, ?_, ?_⟩
  · exact ((Ent.perm p1).trans (Ent.cons (ent_true (fun _ => trivial)))).trans (Ent.cons (Ent.perm pp))
  · exact ((Ent.cons (Ent.perm pp.symm)).trans (Ent.cons Ent.drop)).trans (Ent.perm p1.symm)

def keyZ (sz : Nat) : SV → Option (SV × List SV)
  | .v (.string s) => bif Nat.beq sz 1 then some (.v (.string s), [.v (.string s)]) else none
  | .a [.v (.int .i64 a), .v (.int .i64 b)] => bif Nat.beq sz 2 then some (.a [.v (.int .i64 a), .v (.int .i64 b)], [.v (.int .i64 a), .v (.int .i64 b)]) else none
  | _ => none
def spKeys (el sz : Nat) (isK : Nat → Bool) : Sp := fun l h nx => match l with
  | [.v (.slice none 0 0), .f (.func k) [] [.p b 0]] => bif isK k then (match hget h b with
    | some (.cells _ [.m c] _ _) => match hget h c with
      | some (.map [] _) => some (.v (.slice none 0 0), h, nx)
      | some (.map [(k, _, b0)] clk) => match keyZ sz k with
        | some (_, cs) => bif Nat.blt b0 clk then (match hnew h nx (.cells el cs (some (sz, 1)) 0) with
          | some h' => some (.s nx 0 sz 1 none 1 0, h', nx + 1)
          | none => none) else none
        | none => none
      | _ => none
    | _ => none) else none
  | _ => none
/-- What is to be shown of the functions. -/
def KeysOk0 (P : Program) (M : Heap) (k kc : Nat) : Prop := ∀ (ρ : Rho) (el : Nat) (opn : Option (Nat × Nat)) (fz clk : Nat),
  Spec P M k [.slice none 0 0, .func (.func kc) #[] #[den ρ (.p 0 0)]] (objs ρ (hk0 el opn fz [] clk)) fun v L => v = .slice none 0 0 ∧ Ent L (objs ρ (hk0 el opn fz [] clk))
def KeysOk1 (P : Program) (M : Heap) (k kc elK sz : Nat) : Prop := ∀ (ρ : Rho) (el : Nat) (opn : Option (Nat × Nat)) (fz clk b0 : Nat) (kv vv : SV) (cs : List SV), keyZ sz kv = some (kv, cs) → okV (fun _ => False) vv → Nat.blt b0 clk = true →
  Spec P M k [.slice none 0 0, .func (.func kc) #[] #[den ρ (.p 0 0)]] (objs ρ (hk0 el opn fz [(kv, vv, b0)] clk)) fun v L => ∃ (ρ4 : Rho) (n : Nat), v = den ρ4 (.s n 0 sz 1 none 1 0) ∧ Ent L (objP ρ4 n (.cells elK cs (some (sz, 1)) 0) :: objs ρ (hk0 el opn fz [(kv, vv, b0)] clk))
theorem keyZ_spec {sz : Nat} {k k' : SV} {cs : List SV} (e : keyZ sz k = some (k', cs)) : k' = k ∧ okV (fun _ => False) k ∧ (∀ ρ ρ', dens ρ cs = dens ρ' cs) ∧ (∀ ρ ρ' : Rho, den ρ k = den ρ' k) ∧ ∀ D, okVs D cs := by
  unfold keyZ at e
  split at e
  · cases hb : Nat.beq sz 1 with
    | false => rw [hb] at e; cases e
    | true => rw [hb] at e; cases e; exact ⟨rfl, trivial, fun _ _ => rfl, fun _ _ => rfl, fun _ => ⟨trivial, trivial⟩⟩
  · cases hb : Nat.beq sz 2 with
    | false => rw [hb] at e; cases e
    | true => rw [hb] at e; cases e; exact ⟨rfl, ⟨trivial, trivial, trivial⟩, fun _ _ => rfl, fun _ _ => rfl, fun _ => ⟨trivial, trivial, trivial⟩⟩
  · cases e
theorem spKeys_ok {k elK sz : Nat} {isK : Nat → Bool} (hen : Enters P k) (H : ∀ kc, isK kc = true → KeysOk0 P M k kc ∧ KeysOk1 P M k kc elK sz) : XOk1 P M k (spKeys elK sz isK) := by
  intro args h nx x h' nx' e ok hk ρ
  unfold spKeys at e
  split at e
  · rename_i kc b
    cases hb : isK kc with
    | false => rw [hb] at e; cases e
    | true =>
      rw [hb] at e
      simp only [cond_true] at e
      obtain ⟨H0, H1⟩ := H kc hb
      have hargs : (dens ρ [.v (.slice none 0 0), .f (.func kc) [] [.p b 0]]).toArray = [.slice none 0 0, .func (.func kc) #[] #[.pointer (some ⟨(ρ b).b, (ρ b).o + 0, none⟩)]].toArray := rfl
      rw [hargs]
      split at e
      · rename_i el c opn fz hgb
        have hptr : den (rho0 ρ b c) (.p 0 0) = .pointer (some ⟨(ρ b).b, (ρ b).o + 0, none⟩) := rfl
        split at e
        · rename_i clk hgc
          cases e
          obtain ⟨R, en1, en2⟩ := bridge (ρ := ρ) (es' := []) hgb hgc rfl
          have S := ((H0 (rho0 ρ b c) el opn fz clk).beside (X := R)).pre en1
          rw [hptr] at S
          have S2 := S.post (K' := fun v L => v = .slice none 0 0 ∧ L = objs ρ h) (fun v L k => by
            obtain ⟨L1, rfl, hv, hen⟩ := k
            exact ⟨objs ρ h, (hen.app).trans en2, hv, rfl⟩)
          refine (opT.enter (R := []) hen (Pick.whole _) S2 fun v L1 k => ?_)
          obtain ⟨rfl, rfl⟩ := k
          rw [List.append_nil]
          exact ⟨ρ, rfl, rfl, .refl ok, trivial⟩
        · rename_i kv vv b0 clk hgc
          split at e
          · rename_i k' cs hks
            obtain ⟨rfl, kok, cden, kden, cok⟩ := keyZ_spec hks
            cases hbl : Nat.blt b0 clk with
            | false => rw [hbl] at e; cases e
            | true =>
              rw [hbl] at e
              simp only [cond_true] at e
              split at e
              · rename_i h1 hn
                cases e
                have hes : [(k', vv, b0)].map (entryOf ρ) = [(k', .v (den ρ vv), b0)].map (entryOf (rho0 ρ b c)) := by
                  simp only [List.map_cons, List.map_nil, entryOf]
                  rw [kden ρ (rho0 ρ b c)]; rfl
                obtain ⟨R, en1, en2⟩ := bridge (ρ := ρ) (es' := [(k', .v (den ρ vv), b0)]) hgb hgc hes
                have S := ((H1 (rho0 ρ b c) el opn fz clk b0 k' (.v (den ρ vv)) cs hks trivial hbl).beside (X := R)).pre en1
                rw [hptr] at S
                have S2 := S.post (K' := fun v L => ∃ (ρ4 : Rho) (n : Nat), v = den ρ4 (.s n 0 sz 1 none 1 0) ∧ L = objP ρ4 n (.cells elK cs (some (sz, 1)) 0) :: objs ρ h) (fun v L k => by
                  obtain ⟨L1, rfl, ρ4, n, hv, hen⟩ := k
                  exact ⟨_, (hen.app).trans (Ent.cons en2), ρ4, n, hv, rfl⟩)
                have S3 : Spec P M k [.slice none 0 0, .func (.func kc) #[] #[.pointer (some ⟨(ρ b).b, (ρ b).o + 0, none⟩)]] (objs ρ h) (KO h ρ (.s nx 0 sz 1 none 1 0) h') := by
                  refine S2.post fun v L k => ?_
                  obtain ⟨ρ4, n, hv, rfl⟩ := k
                  obtain ⟨hn0, hc0, rfl⟩ := hnew_spec hn
                  have hbn : (bind1 ρ nx (ρ4 n)) nx = ρ4 n := by simp [bind1]
                  have hext : ∀ c, dom h c → ρ c = bind1 ρ nx (ρ4 n) c := fun c hd => by
                    unfold bind1
                    rw [if_neg]
                    rintro rfl
                    exact hd hn0
                  have ho : objP ρ4 n (.cells elK cs (some (sz, 1)) 0) = objP (bind1 ρ nx (ρ4 n)) nx (.cells elK cs (some (sz, 1)) 0) := by
                    funext g
                    simp only [objP, opnOk, Gv.room, hbn]
                    rw [cden ρ4 (bind1 ρ nx (ρ4 n))]
                  refine ⟨objs (bind1 ρ nx (ρ4 n)) (hset h nx (.cells elK cs (some (sz, 1)) 0)), ?_, bind1 ρ nx (ρ4 n), ?_, rfl, ⟨fun c k => dom_set k, hext, okHp_set ok hc0 (show okO (dom (hset h nx (.cells elK cs (some (sz, 1)) 0))) (.cells elK cs (some (sz, 1)) 0) from cok _)⟩, dom_self hc0⟩
                  · rw [ho, objs_okHp ok hext]
                    exact Ent.perm (objs_new (bind1 ρ nx (ρ4 n)) 12 h nx nx _ (p12 hc0) hn0).symm
                  · rw [hv]
                    unfold den sOff sCap Gv.room
                    rw [hbn]
                refine (opT.enter (R := []) hen (Pick.whole _) S3 fun v L1 k => ?_)
                rw [List.append_nil]
                exact k
              · cases e
          · cases e
        · cases e
      · cases e
  · cases e
end
end Go.Gv
