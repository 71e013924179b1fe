/- What ranges over a map's keys, and what gathers them. -/
import Derived.Test.YtnennjhbajpbfaaGreatDoorGvR
namespace Go.Gv
set_option linter.unusedVariables false
set_option linter.unusedSimpArgs false
set_option linter.unusedSectionVars false
section
variable {P : Program} {T : TT P} {E : EqT} {G : GT} {M : Heap} {ρ ρ' : Rho} {h h' : Hp} {F : List HP} {w w' : World} {N : Nat} {tm tm' : Tm} {arr : Array Oper} {call : CallF} {e : TEnv} {L : List HP} {Q : Exit → TEnv → List HP → Prop} {ro : Option Nat} {n : Nat}

theorem Run.beside {c : Code} {X : List HP} (h : Run P M N c e L Q) : Run P M N c e (L ++ X) fun x e' L' => ∃ L1, L' = L1 ++ X ∧ Q x e' L1 := by
  intro F w s
  rw [List.append_assoc] at s
  exact wp_mono (h (X ++ F) w s) fun x a' w' ⟨e', L', a, b, c, d⟩ => ⟨e', L' ++ X, a, b, by rw [List.append_assoc]; exact c, L', rfl, d⟩
theorem YieldT.aside {l : Nat} {args : Array Value} {A X : List HP} {K : List HP → Prop} (h : YieldT P M l args X K) : YieldT P M l args (A ++ X) fun L => ∃ L1, L = A ++ L1 ∧ K L1 := by
  intro F w s
  have p : ∀ Y : List HP, ((A ++ Y) ++ F).Perm (Y ++ (A ++ F)) := fun Y => by
    rw [← List.append_assoc]
    exact (List.perm_append_comm).append_right F
  obtain ⟨fn, tmps, a, b, h1, h2⟩ := h (A ++ F) w (s.perm (p X))
  exact ⟨fn, tmps, a, b, h1, h2.mono fun e w' ⟨L', q1, q2, q3, q4⟩ => ⟨A ++ L', q1, q2, q3.perm (p L').symm, L', rfl, q4⟩⟩

theorem keys1_of_ev (hE : EOk P E) (hG : GOk M G) (hC : CallOk P M call) (hm : P.follows .mixedOrders = true) (hN : N ≤ 1000) {k : Nat} {fn : Func} (hf : P.funcs[k]? = some fn) {A B C D Z : Code} {R3 : Array Oper} {np : Nat}
    {dst : Option Nat} {ty : TypeId} {pos : String} {aft : Array Edge} {x : Operand} {xs : Array Operand} {ats : Array TypeId}
    (hb : fn.body = some (.seq A (.block 0 (.loop (.seq B (.seq C (.block 1 (.seq D (.seq (.region 3 R3 false) Z))))))))) (hres : fn.results = #[]) (hNt : fn.ntmps = N)
    (ho : R3.toList[np]? = some ⟨dst, .call ⟨.value x, xs, ats⟩, ty, pos, aft, none⟩) (hc : calm (R3.toList.take np) = true) (hc2 : calm (R3.toList.drop (np + 1)) = true)
    {args : List SV} {h0 h1 h2 h3 h4 h5 h6 h7 h8 h9 : Hp} {n0 n1 n2 n3 n4 n5 n6 n7 n8 n9 : Nat} {tm0 tm1 tm2 tm3 tm4 tm5 tm6 tm7 tm8 tm9 : Tm} {l : Nat} {kv : SV}
    (hargs : args.length ≤ N) (ok : okHp h0) (hk : okVs (dom h0) args) (dA : drawsOk [] A = true) (dB : drawsOk [] B = true) (dC : drawsOk [] C = true) (dD : drawsOk [] D = true) (dZ : drawsOk [] Z = true)
    (eA : evC T E G call N [] A (args0 args 0 .lf) h0 n0 = some (.nor, tm0, h1, n1))
    (eB : evC T E G call N [] B tm0 h1 n1 = some (.nor, tm1, h2, n2))
    (eC : evC T E G call N [] C tm1 h2 n2 = some (.nor, tm2, h3, n3))
    (eD : evC T E G call N [] D tm2 h3 n3 = some (.nor, tm3, h4, n4))
    (eP : evOps T E G call N R3 (R3.toList.take np) tm3 h4 n4 = some (tm4, h5, n5))
    (hx : rd tm4 x = .v (.func (.yield l) #[] #[])) (hxs : xs.toList.map (rd tm4) = [kv]) (hp : put N tm4 dst (.v (.bool true)) = some tm5)
    (eO : evOps T E G call N R3 (R3.toList.drop (np + 1)) tm5 h5 n5 = some (tm6, h6, n6))
    (eZ : evC T E G call N [] Z tm6 h6 n6 = some (.nor, tm7, h7, n7))
    (eB2 : evC T E G call N [] B tm7 h7 n7 = some (.nor, tm8, h8, n8))
    (eC2 : evC T E G call N [] C tm8 h8 n8 = some (.ex 0, tm9, h9, n9))
    {X : List HP} {K : List HP → Prop} (hY : ∀ ρ', YieldT P M l #[den ρ' kv] X K) :
    Spec P M k (dens ρ args) (objs ρ h0 ++ X) fun v L => ∃ ρ' L1, L = objs ρ' h9 ++ L1 ∧ Grew h0 h9 ρ ρ' ∧ K L1 := by
  have hops : R3.toList = R3.toList.take np ++ ⟨dst, .call ⟨.value x, xs, ats⟩, ty, pos, aft, none⟩ :: R3.toList.drop (np + 1) := by
    obtain ⟨h1, h2⟩ := List.getElem?_eq_some_iff.1 ho
    rw [← h2, ← List.drop_eq_getElem_cons, List.take_append_drop]
  refine Spec.of_run hf hb (N := N) (by rw [dens_len]; omega) ?_
  rw [← args0_den (by omega)]
  have okt := args0_ok (D := dom h0) hargs hN hk
  refine Run.seq ((Run.beside (evC_sound (P := P) hE hG hC hm hN A dA ok okt eA (ρ := ρ))).mono ?_)
  rintro y e1 L1 ⟨L0, rfl, rfl, ρ1, rfl, rfl, g1, okt1⟩
  refine Run.block (Run.loop (fun m e L => (m = 2 ∧ ∃ ρ1, e = denT ρ1 tm0 ∧ L = objs ρ1 h1 ++ X ∧ Grew h0 h1 ρ ρ1 ∧ okTm (dom h1) N tm0) ∨ (m = 1 ∧ ∃ ρ2 L2, e = denT ρ2 tm7 ∧ L = objs ρ2 h7 ++ L2 ∧ K L2 ∧ Grew h0 h7 ρ ρ2 ∧ okTm (dom h7) N tm7)) ?_ (n0 := 2) (.inl ⟨rfl, ρ1, rfl, rfl, g1, okt1⟩))
  clear g1 okt1 ρ1
  rintro m e1 L1 (⟨rfl, ρ1, rfl, rfl, g1, okt1⟩ | ⟨rfl, ρ1, L2, rfl, rfl, kL, g1, okt1⟩)
  · refine Run.seq ((Run.beside (evC_sound (P := P) hE hG hC hm hN B dB g1.ok okt1 eB (ρ := ρ1))).mono ?_)
    rintro y e2 L2 ⟨L0, rfl, rfl, ρ2, rfl, rfl, g2, okt2⟩
    refine Run.seq ((Run.beside (evC_sound (P := P) hE hG hC hm hN C dC g2.ok okt2 eC (ρ := ρ2))).mono ?_)
    rintro y e3 L3 ⟨L0, rfl, rfl, ρ3, rfl, rfl, g3, okt3⟩
    refine Run.block (Run.seq ((Run.beside (evC_sound (P := P) hE hG hC hm hN D dD g3.ok okt3 eD (ρ := ρ3))).mono ?_))
    rintro y e4 L4 ⟨L0, rfl, rfl, ρ4, rfl, rfl, g4, okt4⟩
    refine Run.seq (Run.regionY hops hc hc2 ?_)
    refine RunOps.mono_ (RunOps.beside (evOps_sound (P := P) hE hG hC hN g4.ok okt4 eP (ρ := ρ4))) ?_
    rintro e5 L5 ⟨L0, rfl, ρ5, rfl, rfl, g5, okt5⟩
    refine ⟨l, by rw [rd_ev okt5, hx]; rfl, ?_⟩
    have hxs' : xs.map (ev N (denT ρ5 tm4)) = #[den ρ5 kv] := by
      apply Array.ext'
      rw [Array.toList_map, rd_fun okt5]
      have : xs.toList.map (fun y => den ρ5 (rd tm4 y)) = (xs.toList.map (rd tm4)).map (den ρ5) := by simp [Function.comp_def]
      rw [this, hxs]; rfl
    rw [hxs']
    intro F w s
    obtain ⟨f', t', a', b', q1, q2⟩ := YieldT.aside (A := objs ρ5 h5) (hY ρ5) F w s
    refine ⟨f', t', a', b', q1, q2.mono ?_⟩
    rintro en w2 ⟨L6, r1, r2, r3, L7, rfl, kL⟩
    refine ⟨_, r1, r2, r3, ?_⟩
    obtain ⟨p1, p2⟩ := put_spec (ρ := ρ5) hN hp okt5 trivial
    have : den ρ5 (.v (.bool true)) = .bool true := rfl
    rw [← this, ← p1]
    refine RunOps.mono_ (RunOps.beside (evOps_sound (P := P) hE hG hC hN g5.ok p2 eO (ρ := ρ5))) ?_
    rintro e8 L8 ⟨L0, rfl, ρ6, rfl, rfl, g6, okt6⟩
    refine (Run.beside (evC_sound (P := P) hE hG hC hm hN Z dZ g6.ok okt6 eZ (ρ := ρ6))).mono ?_
    rintro y e9 L9 ⟨L0, rfl, rfl, ρ7, rfl, rfl, g7, okt7⟩
    exact ⟨1, by omega, .inr ⟨rfl, ρ7, L7, rfl, rfl, kL, g1.trans (g2.trans (g3.trans (g4.trans (g5.trans (g6.trans g7))))), okt7⟩⟩
  · refine Run.seq ((Run.beside (evC_sound (P := P) hE hG hC hm hN B dB g1.ok okt1 eB2 (ρ := ρ1))).mono ?_)
    rintro y e2 L3 ⟨L0, rfl, rfl, ρ2, rfl, rfl, g2, okt2⟩
    refine Run.seq ((Run.beside (evC_sound (P := P) hE hG hC hm hN C dC g2.ok okt2 eC2 (ρ := ρ2))).mono ?_)
    rintro y e3 L4 ⟨L0, rfl, rfl, ρ3, rfl, rfl, g3, okt3⟩
    intro F w s
    exact ⟨_, _, results_none hres _ _ _, s, ρ3, L2, rfl, g1.trans (g2.trans g3), kL⟩

theorem act0 {fn : Func} {args : List Value} (hN : fn.ntmps = N) (hl : args.length ≤ N) : ({ tmps := args.toArray ++ Array.replicate (fn.ntmps - args.toArray.size) undef, defers := [] } : Act) = actD N (e0 args) [] := by
  have : (actOf N (e0 args)).tmps = args.toArray ++ Array.replicate (fn.ntmps - args.toArray.size) undef := by
    apply Array.ext
    · simp [actOf, hN]; omega
    · intro i h1 h2
      simp only [actOf, Array.getElem_ofFn, e0]
      by_cases hi : i < args.length
      · rw [Array.getElem_append_left (by simpa using hi)]
        simp [List.getD_eq_getElem?_getD, List.getElem?_eq_getElem hi]
      · rw [Array.getElem_append_right (by simpa using hi)]
        simp [List.getD_eq_getElem?_getD, List.getElem?_eq_none (Nat.le_of_not_lt hi)]
  unfold actD
  rw [this]
theorem appSeq_of_ev (hE : EOk P E) (hG : GOk M G) (hC : CallOk P M call) (hN : N ≤ 1000) {k : Nat} {fn : Func} (hf : P.funcs[k]? = some fn) {o0 o1 oA oB o4 : Array Oper}
    (hb : fn.body = some (.seq (.region 0 o0 false) (.seq (.seq (.region 1 o1 false) (.block 0 (.rangeFunc (.tmp 6) #[7] (.region 2 oA false) (.block 1 (.region 3 oB false))))) (.seq (.region 4 o4 false) .ret))))
    (hres : fn.results = #[.tmp 4]) (hNt : fn.ntmps = N) (hN2 : 2 ≤ N) {s0 : Value} {kc : Nat} {lb : List Value} {h0 h1 h2 h4 : Hp} {n0 n1 n2 n4 : Nat} {tm0 tm1 tm4 : Tm}
    (c0 : calm o0.toList = true) (c1 : calm o1.toList = true) (c4 : calm o4.toList = true)
    (e0 : evOps T E G call N o0 o0.toList (args0 [.v s0, .v (.func (.func kc) #[] lb.toArray)] 0 .lf) .lf 0 = some (tm0, h0, n0)) (e1 : evOps T E G call N o1 o1.toList tm0 h0 n0 = some (tm1, h1, n1))
    (hg : rd tm1 (.tmp 6) = .v (.func (.func kc) #[] lb.toArray)) (hen : Enters P kc) {X : List HP}
    (hK : ∀ ρ1 l D fnid, okHp h1 → okTm (dom h1) N tm1 → Spec P M kc (.func (.yield l) #[] #[] :: lb) ((pts l (.loop (recOf fnid (actOf N (denT ρ1 tm1)).tmps 7 1 2 3 D oA oB .ready)) :: objs ρ1 h1) ++ X) fun v L => ∃ ρ2, L = (pts l (.loop (recOf fnid (actOf N (denT ρ1 tm1)).tmps 7 1 2 3 D oA oB .ready)) :: objs ρ2 h2) ++ X ∧ Grew h1 h2 ρ1 ρ2)
    (e4 : evOps T E G call N o4 o4.toList tm1 h2 n2 = some (tm4, h4, n4)) :
    Spec P M k [s0, .func (.func kc) #[] lb.toArray] X fun v L => ∃ ρ4, v = den ρ4 (rd tm4 (.tmp 4)) ∧ L = objs ρ4 h4 ++ X ∧ okHp h4 := by
  intro F w s
  refine (callsIn_wide (n := 3)).1 (callsIn_of_wp_marks hf hb trivial ?_ rfl)
  rw [act0 hNt (by simpa using hN2)]
  have hargs : ([.v s0, .v (.func (.func kc) #[] lb.toArray)] : List SV).length ≤ N := by simpa using hN2
  have okt := args0_ok (D := dom .lf) hargs hN ⟨trivial, trivial, trivial⟩
  have okl : okHp (.lf : Hp) := fun n c o q => by cases q
  have ed : (Gv.e0 [s0, .func (.func kc) #[] lb.toArray]) = denT (fun _ => ⟨0, 0, 0⟩) (args0 [.v s0, .v (.func (.func kc) #[] lb.toArray)] 0 .lf) := (args0_den (ρ := fun _ => ⟨0, 0, 0⟩) (args := [.v s0, .v (.func (.func kc) #[] lb.toArray)]) (by simp)).symm
  rw [ed]
  have s' : Sat M (objs (fun _ => ⟨0, 0, 0⟩) (.lf : Hp) ++ (X ++ F)) w := s
  refine wpIn_seq (RunOps.regionIn (ro := none) c0 (evOps_sound (P := P) hE hG hC hN okl okt e0 (ρ := fun _ => ⟨0, 0, 0⟩)) s' ?_)
  rintro _ _ w0 ⟨ρ0, rfl, rfl, g0, okt0⟩ s0' v0
  refine wpIn_seq (wpIn_seq (RunOps.regionIn (ro := none) c1 (evOps_sound (P := P) hE hG hC hN g0.ok okt0 e1 (ρ := ρ0)) s0' ?_))
  rintro _ _ w1 ⟨ρ1, rfl, rfl, g1, okt1⟩ s1 v1
  refine wpIn_block (wpIn_rangeFunc ?_)
  intro fnid _
  have hev : (actD N (denT ρ1 tm1) []).eval (.tmp 6) = .func (.func kc) #[] lb.toArray := by rw [actD_eval, rd_ev okt1, hg]; rfl
  obtain ⟨W0, hW0⟩ : ∃ W0, w1.alloc (.deferred (some [])) = W0 := ⟨_, rfl⟩
  have t0 : Sat M (pts w1.heap.size (.deferred (some [])) :: (objs ρ1 h1 ++ (X ++ F))) W0 := by rw [← hW0]; exact s1.new _ rfl
  have z0 : W0.heap.size = w1.heap.size + 1 := by rw [← hW0]; simp
  obtain ⟨W1, hW1⟩ : ∃ W1, W0.alloc (.loop (recOf fnid (actOf N (denT ρ1 tm1)).tmps 7 1 2 3 w1.heap.size oA oB .ready)) = W1 := ⟨_, rfl⟩
  have t1 : Sat M (pts (w1.heap.size + 1) (.loop (recOf fnid (actOf N (denT ρ1 tm1)).tmps 7 1 2 3 w1.heap.size oA oB .ready)) :: pts w1.heap.size (.deferred (some [])) :: (objs ρ1 h1 ++ (X ++ F))) W1 := by
    rw [← hW1, ← z0]; exact t0.new _ rfl
  have v2 : Env w1 W1 := by
    rw [← hW1, ← hW0]; exact Env.trans (b := w1.alloc (.deferred (some []))) env_push env_push
  refine ⟨w1.heap.size + 1, [{ target := .collected w1.heap.size, args := #[] }], W1, { target := .fn (.func kc) lb.toArray, args := #[.func (.yield (w1.heap.size + 1)) #[] #[]] }, W1, kc, (.func (.yield (w1.heap.size + 1)) #[] #[] :: lb).toArray, W1, ?_, ?_, fun _ _ => trivial, ?_, fun q => fz_depth (ro := none) q, ?_⟩
  · rw [← hW1, ← hW0]; exact run_enterLoop_outer _ _ _ _ _
  · have : resolve (actD N (denT ρ1 tm1) []).eval (rangeCall (.tmp 6) (w1.heap.size + 1)) 0 = pure { target := .fn (.func kc) lb.toArray, args := #[.func (.yield (w1.heap.size + 1)) #[] #[]] } := by
      have hev' : (actD N (denT ρ1 tm1) []).tmps[6]?.getD undef = .func (.func kc) #[] lb.toArray := by simpa [Act.eval] using hev
      simp [resolve, hev', Deferred.ofValue, Act.eval]
    rw [this]; rfl
  · have : invoke (.fn (.func kc) lb.toArray) #[.func (.yield (w1.heap.size + 1)) #[] #[]] = callFunc kc (#[.func (.yield (w1.heap.size + 1)) #[] #[]] ++ lb.toArray) := by simp [invoke]
    rw [this, hen]
    simp
  · refine (callsIn_wide.2 ((hK ρ1 (w1.heap.size + 1) w1.heap.size fnid g1.ok okt1) (pts w1.heap.size (.deferred (some [])) :: F) W1 (t1.perm ?_))).mono ?_
    · refine List.Perm.trans ?_ (List.perm_middle.symm)
      rw [List.cons_append, List.cons_append, List.append_assoc]
      exact .swap ..
    rintro en w2 ⟨_, _, rfl, v3, s2, ρ2, rfl, g2⟩
    have s2' : Sat M (pts (w1.heap.size + 1) (.loop (recOf fnid (actOf N (denT ρ1 tm1)).tmps 7 1 2 3 w1.heap.size oA oB .ready)) :: (objs ρ2 h2 ++ (X ++ (pts w1.heap.size (.deferred (some [])) :: F)))) w2 := by
      have := s2
      rw [List.cons_append, List.cons_append, List.append_assoc] at this
      exact this
    have hl2 := s2'.block
    obtain ⟨W3, hW3⟩ : ∃ W3, w2.putObj (w1.heap.size + 1) (.loop { recOf fnid (actOf N (denT ρ1 tm1)).tmps 7 1 2 3 w1.heap.size oA oB .ready with state := .exhausted }) = W3 := ⟨_, rfl⟩
    have hend := run_endLoop (P := P) hl2 (by simp [recOf])
    rw [hW3] at hend
    have s3 : Sat M (objs ρ2 h2 ++ (X ++ (pts w1.heap.size (.deferred (some [])) :: F))) W3 := by rw [← hW3]; exact (s2'.set (putObj_get hl2)).tail
    have v3' : Env w2 W3 := by rw [← hW3]; exact env_putObj
    clear hW3
    refine ⟨none, W3, hend, ?_⟩
    have ed2 : denT ρ1 tm1 = denT ρ2 tm1 := denT_congr okt1 g2.ext
    show (Code.seq (.region 4 o4 false) .ret).wpIn (fz none) 3 P _ (actD N (denT ρ1 tm1) [{ target := .collected w1.heap.size, args := #[] }]) _
    rw [ed2]
    refine wpIn_seq (RunOps.regionIn (ro := none) c4 (evOps_sound (P := P) hE hG hC hN g2.ok (okTm_up okt1 g2.dom) e4 (ρ := ρ2)) s3 ?_)
    rintro _ _ w4 ⟨ρ4, rfl, rfl, g4, okt4⟩ s4 v4
    refine wpIn_ret ?_
    have s4' : Sat M (pts w1.heap.size (.deferred (some [])) :: (objs ρ4 h4 ++ (X ++ F))) w4 := s4.perm (by
      rw [← List.append_assoc, ← List.append_assoc]; exact List.perm_middle)
    have hl4 := s4'.block
    refine ⟨by simp, .inl ⟨_, _, rfl, run_takeDeferred hl4, ?_⟩⟩
    refine ⟨_, results_tmp hres _ _ _, _, objs ρ4 h4 ++ X, rfl, ?_, ?_, ρ4, ?_, rfl, g4.ok⟩
    · exact v0.trans (v1.trans (v2.trans (v3.trans (v3'.trans (v4.trans env_putObj)))))
    · rw [List.append_assoc]
      exact (s4'.set (o' := .deferred none) (putObj_get hl4)).tail
    · have := rd_ev (ρ := ρ4) okt4 (.tmp 4)
      rw [← this, ← actOf_getD]
      simp [actD]
end
end Go.Gv
