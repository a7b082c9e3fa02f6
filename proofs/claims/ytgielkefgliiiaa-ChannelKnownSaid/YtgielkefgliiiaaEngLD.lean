/-
  Maps whose keys are numbers, bools or strings.
-/
import Derived.Test.YtgielkefgliiiaaEngLC
namespace Go.Eng

section
variable (P : Program) (F : Facts)

def plainKey : TypeDesc → Bool
  | .int _ => true
  | .bool => true
  | .string => true
  | _ => false

/-- Are two keys the same one? -/
def eqK : TypeDesc → DV → DV → Option Bool
  | .int _, .int k a, .int k' b => if k = k' then (E.bi .eqi a b).dec F else none
  | .string, .str a, .str b => (E.bi .eqs a b).dec F
  | .bool, .bool a, .bool b => (E.bi .eqb a b).dec F
  | _, _, _ => none

def findD (kd : TypeDesc) (x : DV) : List (DV × DV) → Nat → Option (Option (Nat × DV))
  | [], _ => some none
  | (k, v) :: r, i => match eqK F kd x k with
    | some true => some (some (i, v))
    | some false => findD kd x r (i + 1)
    | none => none

def entriesD (h : T Blk) : DV → Option (List (DV × DV))
  | .nilm => some []
  | .mp id => match h.get id with
    | some (.mpb es) => some es
    | _ => none
  | _ => none

/-- What is found under a key. -/
def lookD (h : T Blk) (kt et : TypeId) (d x : DV) : Option (DV × Bool) :=
  match P.underlying kt, entriesD h d with
  | some kd, some es => if plainKey kd then (match findD F kd x es 0 with
      | some (some (_, v)) => some (v, true)
      | some none => (zeroD P et).map fun z => (z, false)
      | none => none) else none
  | _, _ => none

def valC (h : T Blk) (t : T DV) : Op → Option DV
  | .lookup ty x ix ok => match P.underlying ty, opd t x, opd t ix with
    | some (.map kt et), some d, some k => match lookD P F h kt et d k with
      | some (v, b) => some (if ok then .tup [v, .bool (.lb b)] else v)
      | none => none
    | _, _, _ => none
  | .call c => match c.callee, c.args.toList.mapM (opd t) with
    | .builtin .len, some [.mp id] => match c.argTypes[0]?, h.get id with
      | some ty, some (.mpb es) => (match P.underlying ty with
        | some (.map _ _) => some (.int .i64 (.li es.length))
        | _ => none)
      | _, _ => none
    | _, _ => none
  | _ => none

/-- What a map is where something is laid under a key. -/
def putK (kd : TypeDesc) (es : List (DV × DV)) (k v : DV) : Option (List (DV × DV)) := match findD F kd k es 0 with
  | some (some (i, _)) => some (es.set i (k, v))
  | some none => some (es ++ [(k, v)])
  | none => none

def updM (h : T Blk) (n : Nat) (t : T DV) (ty : TypeId) (m k x : Operand) : Option Out :=
  match P.underlying ty, opd t m, opd t k, opd t x with
  | some (.map kt _), some (.mp id), some dk, some dx => match P.underlying kt, h.get id with
    | some kd, some (.mpb es) => if plainKey kd then (putK F kd es dk dx).map fun es' => ⟨.tup [], h.set id (.mpb es'), n⟩ else none
    | _, _ => none
  | _, _, _, _ => none

def memM (h : T Blk) (n : Nat) (t : T DV) : Op → Option Out
  | .makeMap ty r => match r with
    | none => some ⟨.mp n, h.set n (.mpb []), n + 1⟩
    | some x => (match P.underlying ty, opd t x with
      | some (.map _ _), some (.int _ _) => some ⟨.mp n, h.set n (.mpb []), n + 1⟩
      | _, _ => none)
  | .mapUpdate ty m k x => updM P F h n t ty m k x
  | .insert ty m k x => updM P F h n t ty m k x
  | _ => none

def valAC (h : T Blk) (t : T DV) (op : Op) : Option DV := match valAB P F h t op with
  | some d => some d
  | none => valC P F h t op

def memAM (h : T Blk) (n : Nat) (t : T DV) (op : Op) : Option Out := match memABC P F h n t op with
  | some r => some r
  | none => memM P F h n t op

variable {P} {F}

theorem eqK_sound {m : Emb} {ρ : Env} (hF : F.ok ρ) {kd : TypeDesc} {x y : DV} {b : Bool} (h : eqK F kd x y = some b) {vx vy : Value} (hx : x.R m ρ vx) (hy : y.R m ρ vy) :
    Instr.sameNow kd vx vy = some b ∧ (b = true → vy = vx) ∧ Instr.sameBits 10000 vx vx = true := by
  unfold eqK at h
  split at h
  · rename_i k a k' c
    split at h
    · rename_i e
      subst e
      have := E.dec_sound hF h
      simp only [DV.R] at hx hy
      subst hx; subst hy
      simp only [E.ev, B2.ev, Sc.bool_B] at this
      refine ⟨?_, fun hb => ?_, by simp [Instr.sameBits]⟩
      · simp only [Instr.sameNow, if_true]
        rw [← this]
        congr 1
      · rw [hb] at this
        rw [of_decide_eq_true this]
    · cases h
  · rename_i a c
    have := E.dec_sound hF h
    simp only [DV.R] at hx hy
    subst hx; subst hy
    simp only [E.ev, B2.ev, Sc.bool_B] at this
    refine ⟨by simp only [Instr.sameNow]; rw [← this, beq_bytes], fun hb => ?_, by simp [Instr.sameBits, beq_bytes]⟩
    rw [hb] at this
    rw [of_decide_eq_true this]
  · rename_i a c
    have := E.dec_sound hF h
    simp only [DV.R] at hx hy
    subst hx; subst hy
    simp only [E.ev, B2.ev, Sc.bool_B] at this
    refine ⟨?_, fun hb => ?_, by simp [Instr.sameBits]⟩
    · simp only [Instr.sameNow]
      rw [← this]
      congr 1
    · rw [hb] at this
      rw [of_decide_eq_true this]
  · cases h

theorem findD_sound {m : Emb} {ρ : Env} (hF : F.ok ρ) {kd : TypeDesc} {x : DV} {vx : Value} (hx : x.R m ρ vx) : ∀ {es : List (DV × DV)} {en : List MapEntry} {i : Nat} {r : Option (Nat × DV)}, findD F kd x es i = some r →
    DV.RL m ρ (es.map (·.1)) (en.map (·.key)) → DV.RL m ρ (es.map (·.2)) (en.map (·.val)) →
    (r = none → Instr.findNow kd vx en i = some none) ∧ (∀ j d, r = some (j, d) → ∃ v e, Instr.findNow kd vx en i = some (some (j, v)) ∧ d.R m ρ v ∧ i ≤ j ∧ en[j - i]? = some e ∧ e.key = vx ∧ Instr.sameBits 10000 vx vx = true)
  | [], en, i, r, h, h1, h2 => by
    simp only [findD] at h
    cases h
    simp only [List.map_nil, DV.RL, List.map_eq_nil_iff] at h1
    subst h1
    exact ⟨fun _ => rfl, fun j d hc => by cases hc⟩
  | (k, v) :: es, en, i, r, h, h1, h2 => by
    simp only [List.map_cons, DV.RL] at h1 h2
    obtain ⟨uk, ur, he, hk, hkr⟩ := h1
    match en, he with
    | e :: en, he =>
      simp only [List.map_cons, List.cons.injEq] at he
      obtain ⟨rfl, rfl⟩ := he
      obtain ⟨uv, uvr, he2, hv, hvr⟩ := h2
      simp only [List.map_cons, List.cons.injEq] at he2
      obtain ⟨rfl, rfl⟩ := he2
      simp only [findD] at h
      split at h
      · rename_i hq
        cases h
        obtain ⟨q1, q2, q3⟩ := eqK_sound hF hq hx hk
        refine ⟨(fun hc => by cases hc), fun j d hc => ?_⟩
        cases hc
        exact ⟨e.val, e, by simp only [Instr.findNow, q1], hv, Nat.le_refl _, by simp, q2 rfl, q3⟩
      · rename_i hq
        obtain ⟨q1, q2, q3⟩ := eqK_sound hF hq hx hk
        obtain ⟨g1, g2⟩ := findD_sound hF hx h hkr hvr
        refine ⟨fun hc => by simp only [Instr.findNow, q1]; exact g1 hc, fun j d hc => ?_⟩
        obtain ⟨v', e', f1, f2, f3, f4, f5⟩ := g2 j d hc
        refine ⟨v', e', by simp only [Instr.findNow, q1]; exact f1, f2, by omega, ?_, f5⟩
        rw [show j - i = (j - (i + 1)) + 1 by omega]
        simpa using f4
      · cases h

theorem checkKey_run {kt : TypeId} {kd : TypeDesc} (hk : P.underlying kt = some kd) (hp : plainKey kd = true) (b : Bool) (v : Value) (w : World) : (Instr.checkKey b 10000 kt v).run P w = .ok () w := by
  unfold Instr.checkKey
  simp only [Sem.run_bind, run_underlying hk, Result.andThen_ok]
  cases kd <;> simp [plainKey] at hp <;> cases v <;> rfl

theorem entriesD_sound {m : Emb} {ρ : Env} {h : T Blk} {w : World} (hH : HeapR m ρ h w) {d : DV} {es : List (DV × DV)} (he : entriesD h d = some es) {v : Value} (hd : d.R m ρ v) :
    ∃ en : Array MapEntry, DV.RL m ρ (es.map (·.1)) (en.toList.map (·.key)) ∧ DV.RL m ρ (es.map (·.2)) (en.toList.map (·.val)) ∧
      ((v = .map none ∧ en = #[]) ∨ ∃ b clk, v = .map (some b) ∧ w.heap[b]? = some (.map en clk)) := by
  unfold entriesD at he
  split at he
  · cases he
    simp only [DV.R] at hd
    exact ⟨#[], by simp [DV.RL], by simp [DV.RL], .inl ⟨hd, rfl⟩⟩
  · rename_i id
    split at he
    · rename_i es' hg
      cases he
      obtain ⟨b, ob, hb, ho, en, clk, rfl, h1, h2, hcl, hbn⟩ := hH.blk id _ hg rfl
      simp only [DV.R] at hd
      obtain ⟨b', hb', rfl⟩ := hd
      rw [hb] at hb'; cases hb'
      exact ⟨en, h1, h2, .inr ⟨b, clk, rfl, ho⟩⟩
    · cases he
  · cases he

theorem lookD_sound {m : Emb} {ρ : Env} (hF : F.ok ρ) {h : T Blk} {w : World} (hH : HeapR m ρ h w) {ty kt et : TypeId} (hty : P.underlying ty = some (.map kt et)) {d x r : DV} {b : Bool} (hl : lookD P F h kt et d x = some (r, b)) {vd vx : Value} (hd : d.R m ρ vd) (hx : x.R m ρ vx) :
    ∃ v, r.R m ρ v ∧ ∀ ok, (Instr.lookup ty vd vx ok).run P w = .ok (if ok then .tuple #[v, .bool b] else v) w := by
  unfold lookD at hl
  split at hl
  · rename_i kd es hkd hes
    split at hl
    · rename_i hp
      obtain ⟨en, h1, h2, hv⟩ := entriesD_sound hH hes hd
      have key : ∀ {r' : Option (Nat × Value)}, Instr.findNow kd vx en.toList 0 = some r' → ∀ {v : Value} {b : Bool}, ((∃ i, r' = some (i, v) ∧ b = true) ∨ (r' = none ∧ b = false ∧ (zeroValue et).run P w = .ok v w)) →
          ∀ ok, (Instr.lookup ty vd vx ok).run P w = .ok (if ok then .tuple #[v, .bool b] else v) w := by
        intro r' hr v b hz ok
        have hck := checkKey_run hkd hp en.isEmpty vx w
        have hfk : (Instr.findKey kt vx en.toList).run P w = .ok r' w := by
          simp only [Instr.findKey, Sem.run_bind, run_underlying hkd, Result.andThen_ok, hr, Sem.run_pure]
        rcases hv with ⟨rfl, rfl⟩ | ⟨bb, clk, rfl, ho⟩
        · rcases hz with ⟨i, rfl, rfl⟩ | ⟨rfl, rfl, hz⟩
          · simp only [Instr.lookup, Sem.run_bind, run_underlying hty, Result.andThen_ok, Sem.run_pure, hck, hfk]
          · simp only [Instr.lookup, Sem.run_bind, run_underlying hty, Result.andThen_ok, Sem.run_pure, hck, hfk, hz]
        · have hgo : (getObj bb).run P w = .ok (.map en clk) w := by simp [getObj, Sem.run, ho]
          rcases hz with ⟨i, rfl, rfl⟩ | ⟨rfl, rfl, hz⟩
          · simp only [Instr.lookup, Sem.run_bind, run_underlying hty, Result.andThen_ok, hgo, Sem.run_pure, hck, hfk]
          · simp only [Instr.lookup, Sem.run_bind, run_underlying hty, Result.andThen_ok, hgo, Sem.run_pure, hck, hfk, hz]
      split at hl
      · rename_i i v hf
        cases hl
        obtain ⟨_, g2⟩ := findD_sound hF hx hf h1 h2
        obtain ⟨v', e', f1, f2, _⟩ := g2 i r rfl
        exact ⟨v', f2, key f1 (.inl ⟨i, rfl, rfl⟩)⟩
      · rename_i hf
        simp only [Option.map_eq_some_iff, Prod.mk.injEq] at hl
        obtain ⟨z, hz, rfl, rfl⟩ := hl
        obtain ⟨g1, _⟩ := findD_sound hF hx hf h1 h2
        obtain ⟨i, zv, hi, hzv, hr⟩ := zeroD_R hz m ρ
        refine ⟨zv, hr, key (g1 rfl) (.inr ⟨rfl, rfl, ?_⟩)⟩
        simp [zeroValue, typeInfo, hi, hzv]
      · cases hl
    · cases hl
  · cases hl

theorem valC_sound {m : Emb} {ρ : Env} (hF : F.ok ρ) {h : T Blk} {t : T DV} {a : Act} {w : World} (hH : HeapR m ρ h w) (ht : TmpR m ρ t a) {o : Oper} {d : DV} (hd : valC P F h t o.op = some d) :
    ∃ v, (execOp a.eval o).run P w = .ok (.value v) w ∧ d.R m ρ v := by
  obtain ⟨dst, op, type, pos, after, guard⟩ := o
  simp only at hd
  cases op <;> simp only [valC, reduceCtorEq] at hd
  case lookup ty x ix ok =>
    split at hd
    · rename_i kt et dm dk hty hm hk
      split at hd
      · rename_i v b hl
        cases hd
        obtain ⟨v', hr, hrun⟩ := lookD_sound hF hH hty hl (opd_R ht hm) (opd_R ht hk)
        refine ⟨_, run_v (hrun ok), ?_⟩
        cases ok with
        | true => simp only [if_true, DV.R, DV.RL]; exact ⟨_, rfl, v', _, rfl, hr, _, _, rfl, rfl, rfl⟩
        | false => simpa using hr
      · cases hd
    · cases hd
  case call c =>
    obtain ⟨callee, args, argTypes⟩ := c
    simp only at hd
    split at hd
    · rename_i id hargs
      split at hd
      · rename_i ty es hty hg
        split at hd
        · rename_i kt et hu
          cases hd
          have hA := opds_R ht hargs
          simp only [DV.RL] at hA
          obtain ⟨v0, vr, he, hR, rfl⟩ := hA
          have hmap : args.map a.eval = #[v0] := Array.toList_inj.1 (by rw [Array.toList_map]; exact he)
          obtain ⟨b, ob, hb, ho, en, clk, rfl, h1, h2, hcl, hbn⟩ := hH.blk id _ hg rfl
          simp only [DV.R] at hR
          obtain ⟨b', hb', rfl⟩ := hR
          rw [hb] at hb'; cases hb'
          have hl := h1.length
          simp only [List.length_map, Array.length_toList] at hl
          have hgo : (getObj b).run P w = .ok (.map en clk) w := by simp [getObj, Sem.run, ho]
          refine ⟨.int .i64 es.length, ?_, rfl⟩
          have : (Builtin.len_ argTypes type #[.map (some b)]).run P w = .ok (.int .i64 es.length) w := by
            simp [Builtin.len_, hty, run_underlying hu, hgo, goInt, hl]
          simp [execOp, resolve, hmap, invoke, builtin, this]
        · cases hd
      · cases hd
    · cases hd
  all_goals simp at hd

theorem DV.RL.set {m : Emb} {ρ : Env} : ∀ {l : List DV} {vs : List Value} (i : Nat) {d : DV} {v : Value}, DV.RL m ρ l vs → d.R m ρ v → DV.RL m ρ (l.set i d) (vs.set i v)
  | [], vs, i, d, v, h, _ => by simp only [DV.RL] at h; subst h; simp [DV.RL]
  | a :: l, vs, i, d, v, h, hd => by
    simp only [DV.RL] at h
    obtain ⟨u, ur, rfl, h1, h2⟩ := h
    cases i with
    | zero => simp only [List.set_cons_zero, DV.RL]; exact ⟨v, ur, rfl, hd, h2⟩
    | succ i => simp only [List.set_cons_succ, DV.RL]; exact ⟨u, _, rfl, h1, h2.set i hd⟩

theorem updM_sound {m : Emb} {ρ : Env} (hF : F.ok ρ) {h : T Blk} {n : Nat} {t : T DV} {a : Act} {w : World} (hH : HeapR m ρ h w) (ht : TmpR m ρ t a) (hf : ∀ id, n ≤ id → m.ι id = none) {ty : TypeId} {om ok ox : Operand} {r : Out} (hd : updM P F h n t ty om ok ox = some r) :
    ∃ w', (Instr.mapUpdate ty (a.eval om) (a.eval ok) (a.eval ox)).run P w = .ok () w' ∧ r.d = .tup [] ∧ r.n = n ∧ HeapR m ρ r.h w' ∧ Trans m h w m r.h w' := by
  unfold updM at hd
  split at hd
  · rename_i kt et id dk dx hty hm hk hx
    split at hd
    · rename_i kd es hkd hg
      split at hd
      · rename_i hp
        simp only [Option.map_eq_some_iff] at hd
        obtain ⟨es', hes', rfl⟩ := hd
        obtain ⟨b, ob, hb, ho, en, clk, rfl, h1, h2, hcl, hbn⟩ := hH.blk id _ hg rfl
        have hRm := opd_R ht hm
        simp only [DV.R] at hRm
        obtain ⟨b', hb', hvm⟩ := hRm
        rw [hb] at hb'; cases hb'
        have hRk := opd_R ht hk
        have hRx := opd_R ht hx
        have hgo : (getObj b).run P w = .ok (.map en clk) w := by simp [getObj, Sem.run, ho]
        have hck := checkKey_run hkd hp false (a.eval ok) w
        have hlt := (Array.getElem?_eq_some_iff.1 ho).1
        have hset : ∀ en' clk', (setObj b (.map en' clk')).run P w = .ok () { w with heap := w.heap.setIfInBounds b (.map en' clk') } := fun en' clk' => by simp [setObj, Sem.run, ho]
        have fin : ∀ (en' : Array MapEntry) (clk' : Nat), (Instr.mapUpdate ty (a.eval om) (a.eval ok) (a.eval ox)).run P w = .ok () { w with heap := w.heap.setIfInBounds b (.map en' clk') } →
            DV.RL m ρ (es'.map (·.1)) (en'.toList.map (·.key)) → DV.RL m ρ (es'.map (·.2)) (en'.toList.map (·.val)) → clk' = en'.size → en'.toList.map (·.born) = List.range en'.size →
            ∃ w', (Instr.mapUpdate ty (a.eval om) (a.eval ok) (a.eval ox)).run P w = .ok () w' ∧ (⟨.tup [], h.set id (.mpb es'), n⟩ : Out).d = .tup [] ∧ (⟨.tup [], h.set id (.mpb es'), n⟩ : Out).n = n ∧ HeapR m ρ (h.set id (.mpb es')) w' ∧ Trans m h w m (h.set id (.mpb es')) w' := by
          intro en' clk' hrun r1 r2 r3 r4
          have hoth : ∀ c, c ≠ b → ({ w with heap := w.heap.setIfInBounds b (.map en' clk') } : World).heap[c]? = w.heap[c]? := fun c hc => by
            simp only [Array.getElem?_setIfInBounds]
            rw [if_neg (fun e => hc e.symm)]
          refine ⟨_, hrun, rfl, rfl, ?_, ?_⟩
          · refine hH.write (o := .map en' clk') hg rfl hb ?_ ⟨en', clk', rfl, r1, r2, r3, r4⟩ rfl hoth
            simp only [Array.getElem?_setIfInBounds, if_true]
            rw [if_pos hlt]
          · exact Trans.write hg rfl hb hoth (by simp) rfl rfl rfl
        unfold putK at hes'
        split at hes'
        · rename_i i dv hfd
          cases hes'
          obtain ⟨_, g2⟩ := findD_sound hF hRk hfd h1 h2
          obtain ⟨v', e, f1, f2, f3, f4, f5, f6⟩ := g2 i dv rfl
          have hfk : (Instr.findKey kt (a.eval ok) en.toList).run P w = .ok (some (i, v')) w := by
            simp only [Instr.findKey, Sem.run_bind, run_underlying hkd, Result.andThen_ok, f1, Sem.run_pure]
          have hei : en[i]? = some e := by simpa using f4
          refine fin (en.modify i fun e => { e with key := a.eval ok, val := a.eval ox }) clk ?_ ?_ ?_ (by simpa using hcl) (by
            have e1 : (en.modify i fun e => { e with key := a.eval ok, val := a.eval ox }).toList.map (·.born) = en.toList.map (·.born) := by
              apply List.ext_getElem?
              intro j
              simp only [Array.toList_modify, List.getElem?_map, List.getElem?_modify]
              by_cases hj : i = j
              · subst hj; cases en.toList[i]? <;> simp
              · simp [hj]
            rw [e1, Array.size_modify]
            exact hbn)
          · rw [hvm]
            simp only [Instr.mapUpdate, Sem.run_bind, run_underlying hty, Result.andThen_ok, hgo, hck, hfk, hei, Option.map_some, Option.getD_some, f5, Instr.keyThatStays, f6, if_true, Sem.run_pure, hset]
          · have e1 : (en.modify i fun e => { e with key := a.eval ok, val := a.eval ox }).toList.map (·.key) = (en.toList.map (·.key)).set i (a.eval ok) := by
              apply List.ext_getElem?
              intro j
              simp only [Array.toList_modify, List.getElem?_map, List.getElem?_modify, List.getElem?_set, List.length_map]
              by_cases hj : i = j
              · subst hj
                have hil := (Array.getElem?_eq_some_iff.1 hei).1
                have he2 : en.toList[i]? = some e := by simpa using hei
                simp [he2, hil]
              · simp [hj]
            rw [e1, show (es.set i (dk, dx)).map (·.1) = (es.map (·.1)).set i dk by rw [List.map_set]]
            exact h1.set i hRk
          · have e1 : (en.modify i fun e => { e with key := a.eval ok, val := a.eval ox }).toList.map (·.val) = (en.toList.map (·.val)).set i (a.eval ox) := by
              apply List.ext_getElem?
              intro j
              simp only [Array.toList_modify, List.getElem?_map, List.getElem?_modify, List.getElem?_set, List.length_map]
              by_cases hj : i = j
              · subst hj
                have hil := (Array.getElem?_eq_some_iff.1 hei).1
                have he2 : en.toList[i]? = some e := by simpa using hei
                simp [he2, hil]
              · simp [hj]
            rw [e1, show (es.set i (dk, dx)).map (·.2) = (es.map (·.2)).set i dx by rw [List.map_set]]
            exact h2.set i hRx
        · rename_i hfd
          cases hes'
          obtain ⟨g1, _⟩ := findD_sound hF hRk hfd h1 h2
          have hfk : (Instr.findKey kt (a.eval ok) en.toList).run P w = .ok none w := by
            simp only [Instr.findKey, Sem.run_bind, run_underlying hkd, Result.andThen_ok, g1 rfl, Sem.run_pure]
          refine fin (en.push { key := a.eval ok, val := a.eval ox, born := clk }) (clk + 1) ?_ ?_ ?_ (by simp [hcl]) (by simp [hbn, hcl, List.range_succ])
          · rw [hvm]
            simp only [Instr.mapUpdate, Sem.run_bind, run_underlying hty, Result.andThen_ok, hgo, hck, hfk, hset]
          · simp only [Array.toList_push, List.map_append, List.map_cons, List.map_nil]
            exact h1.append (by simp only [DV.RL]; exact ⟨_, _, rfl, hRk, rfl⟩)
          · simp only [Array.toList_push, List.map_append, List.map_cons, List.map_nil]
            exact h2.append (by simp only [DV.RL]; exact ⟨_, _, rfl, hRx, rfl⟩)
        · cases hes'
      · cases hd
    · cases hd
  · cases hd

theorem memM_sound {m : Emb} {ρ : Env} (hF : F.ok ρ) {h : T Blk} {n : Nat} {t : T DV} {a : Act} {w : World} (hH : HeapR m ρ h w) (ht : TmpR m ρ t a) (hf : ∀ id, n ≤ id → m.ι id = none) {o : Oper} {r : Out}
    (hd : memM P F h n t o.op = some r) : OpOk m ρ h w ((execOp a.eval o).run P w) r := by
  obtain ⟨dst, op, type, pos, after, guard⟩ := o
  simp only at hd
  cases op <;> simp only [memM, reduceCtorEq] at hd
  case makeMap ty res =>
    have mk : ∀ {run : Result Next}, run = .ok (.value (.map (some w.heap.size))) (w.alloc (.map #[] 0)) → OpOk m ρ h w run ⟨.mp n, h.set n (.mpb []), n + 1⟩ := fun {run} hr =>
      new_ok (k := 0) hH hf (B := .mpb []) (o := .map #[] 0) ⟨#[], 0, rfl, by simp [DV.RL], by simp [DV.RL], rfl, rfl⟩ (d := .mp n) (v := .map (some w.heap.size)) (by simp only [DV.R]; exact ⟨w.heap.size, by simp [Emb.put], rfl⟩) hr
    split at hd
    · cases hd
      exact mk (by simp only [execOp]; exact run_v (by simp [Instr.makeMap]))
    · rename_i x
      split at hd
      · rename_i kt et k e hu hx
        cases hd
        have hR := opd_R ht hx
        simp only [DV.R] at hR
        exact mk (by simp only [execOp]; exact run_v (by simp [Instr.makeMap, run_underlying hu, hR, asInt, asIntOf]))
      · cases hd
  case mapUpdate ty m' k x =>
    obtain ⟨w', hrun, e1, e2, hH', hT⟩ := updM_sound hF hH ht hf hd
    refine ⟨.skip, undef, w', m, ?_, .inr ⟨rfl, rfl⟩, by rw [e1]; simp [DV.R, DV.RL, undef], hH', hT, by rw [e2]; exact hf⟩
    simp only [execOp, Sem.run_bind, hrun, Result.andThen_ok, Sem.run_pure]
  case insert ty m' k x =>
    obtain ⟨w', hrun, e1, e2, hH', hT⟩ := updM_sound hF hH ht hf hd
    refine ⟨.skip, undef, w', m, ?_, .inr ⟨rfl, rfl⟩, by rw [e1]; simp [DV.R, DV.RL, undef], hH', hT, by rw [e2]; exact hf⟩
    simp only [execOp, Sem.run_bind, hrun, Result.andThen_ok, Sem.run_pure]
  all_goals simp at hd

theorem valAC_sound {m : Emb} {ρ : Env} (hF : F.ok ρ) {h : T Blk} {t : T DV} {a : Act} {w : World} (hH : HeapR m ρ h w) (ht : TmpR m ρ t a) {o : Oper} {d : DV} (hd : valAC P F h t o.op = some d) :
    ∃ v, (execOp a.eval o).run P w = .ok (.value v) w ∧ d.R m ρ v := by
  unfold valAC at hd
  split at hd
  · rename_i d' h'; cases hd; exact valAB_sound hF hH ht h'
  · exact valC_sound hF hH ht hd

theorem memAM_sound {m : Emb} {ρ : Env} (hF : F.ok ρ) {h : T Blk} {n : Nat} {t : T DV} {a : Act} {w : World} (hH : HeapR m ρ h w) (ht : TmpR m ρ t a) (hf : ∀ id, n ≤ id → m.ι id = none) {o : Oper} {r : Out}
    (hd : memAM P F h n t o.op = some r) : OpOk m ρ h w ((execOp a.eval o).run P w) r := by
  unfold memAM at hd
  split at hd
  · rename_i r' h'; cases hd; exact memABC_sound hF hH ht hf h'
  · exact memM_sound hF hH ht hf hd
end
end Go.Eng
