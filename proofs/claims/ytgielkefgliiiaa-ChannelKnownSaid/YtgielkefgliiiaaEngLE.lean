/-
  Maps whose keys are structs of numbers, bools and strings.
-/
import Derived.Test.YtgielkefgliiiaaEngLD
namespace Go.Eng

section
variable (P : Program) (F : Facts)

def plainT (t : TypeId) : Bool := match P.underlying t with
  | some kd => plainKey kd
  | none => false

def structKey (kt : TypeId) (x : DV) : Bool := match P.underlying kt, x with
  | some (.struct fs), .agg l => fs.toList.all fun f => (partD P f.type l f.offset).isSome && plainT P f.type
  | _, _ => false

def findS (kt : TypeId) (x : DV) : List (DV × DV) → Nat → Option (Option (Nat × DV))
  | [], _ => some none
  | (k, v) :: r, i => match eqD P F 100 kt x k with
    | some e => match e.dec F with
      | some true => some (some (i, v))
      | some false => findS kt x r (i + 1)
      | none => none
    | none => none

def valE (h : T Blk) (t : T DV) : Op → Option DV
  | .lookup ty x ix ok => match P.underlying ty, opd t x, opd t ix with
    | some (.map kt et), some d, some k => match entriesD h d with
      | some es => if structKey P kt k then (match findS P F kt k es 0 with
        | some (some (_, v)) => some (if ok then .tup [v, .bool (.lb true)] else v)
        | some none => (zeroD P et).map fun z => if ok then .tup [z, .bool (.lb false)] else z
        | none => none) else none
      | none => none
    | _, _, _ => none
  | _ => none

def updS (h : T Blk) (n : Nat) (t : T DV) (ty : TypeId) (m k x : Operand) : Option Out :=
  match P.underlying ty, opd t m, opd t k, opd t x with
  | some (.map kt _), some (.mp id), some dk, some dx => match h.get id with
    | some (.mpb es) => if structKey P kt dk then (match findS P F kt dk es 0 with
      | some none => some ⟨.tup [], h.set id (.mpb (es ++ [(dk, dx)])), n⟩
      | _ => none) else none
    | _ => none
  | _, _, _, _ => none

/-- An entry that is there, or is laid. -/
def entM (h : T Blk) (n : Nat) (t : T DV) (ty : TypeId) (m k : Operand) : Option Out :=
  match P.underlying ty, opd t m, opd t k with
  | some (.map kt et), some (.mp id), some dk => match h.get id, zeroD P et with
    | some (.mpb es), some z => if structKey P kt dk then (match findS P F kt dk es 0 with
      | some none => some ⟨.tup [z, .int .i64 (.li es.length)], h.set id (.mpb (es ++ [(dk, z)])), n⟩
      | _ => none) else none
    | _, _ => none
  | _, _, _ => none

def entSt (h : T Blk) (n : Nat) (t : T DV) (m s x : Operand) : Option Out :=
  match opd t m, opd t s, opd t x with
  | some (.mp id), some (.int _ (.li i)), some dx => match h.get id with
    | some (.mpb es) => match es[i.toNat]? with
      | some p => if 0 ≤ i then some ⟨.tup [], h.set id (.mpb (es.set i.toNat (p.1, dx))), n⟩ else none
      | none => none
    | _ => none
  | _, _, _ => none

def memE (h : T Blk) (n : Nat) (t : T DV) : Op → Option Out
  | .mapEntry ty m k => entM P F h n t ty m k
  | .entryStore _ m s x => entSt h n t m s x
  | .mapUpdate ty m k x => updS P F h n t ty m k x
  | .insert ty m k x => updS P F h n t ty m k x
  | _ => none

def valDE (h : T Blk) (t : T DV) (op : Op) : Option DV := match valAC P F h t op with
  | some d => some d
  | none => valE P F h t op

def memDE (h : T Blk) (n : Nat) (t : T DV) (op : Op) : Option Out := match memAM P F h n t op with
  | some r => some r
  | none => memE P F h n t op

variable {P} {F}

theorem run_forIn_skip {α : Type} {w : World} (body : α → PUnit → Sem (ForInStep PUnit)) : ∀ (l : List α), (∀ a ∈ l, (body a ⟨⟩).run P w = .ok (.yield ⟨⟩) w) → (forIn l PUnit.unit body : Sem PUnit).run P w = .ok ⟨⟩ w
  | [], _ => by simp [Sem.run_pure]
  | a :: l, h => by
    simp only [List.forIn_cons, Sem.run_bind, h a (List.mem_cons_self ..), Result.andThen_ok]
    exact run_forIn_skip body l fun b hb => h b (List.mem_cons_of_mem _ hb)

theorem checkStruct_run {kt : TypeId} {fs : Array Field} (hk : P.underlying kt = some (.struct fs)) {m : Emb} {ρ : Env} {l : List DV} {cs : Array Value} (hl : DV.RL m ρ l cs.toList)
    (hf : ∀ f ∈ fs.toList, (partD P f.type l f.offset).isSome = true ∧ ∃ kd, P.underlying f.type = some kd ∧ plainKey kd = true) (b : Bool) (w : World) : (Instr.checkKey b 10000 kt (.agg cs)).run P w = .ok () w := by
  have hstep : ∀ f ∈ fs.toList, ∃ v kd, (part f.type cs f.offset).run P w = .ok v w ∧ P.underlying f.type = some kd ∧ plainKey kd = true := fun f hm => by
    obtain ⟨h1, kd, h2, h3⟩ := hf f hm
    obtain ⟨d, hd⟩ := Option.isSome_iff_exists.1 h1
    obtain ⟨v, hv, _⟩ := partD_sound (P := P) (w := w) hd hl
    exact ⟨v, kd, hv, h2, h3⟩
  unfold Instr.checkKey
  simp only [Sem.run_bind, run_underlying hk, Result.andThen_ok]
  rw [← Array.forIn_toList]
  have := run_forIn_skip (P := P) (w := w) (fun f _ => if f.name ≠ "_" then (do
        let x ← part f.type cs f.offset
        Instr.checkKey b 9999 f.type x
        pure (.yield PUnit.unit)) else pure (.yield PUnit.unit)) fs.toList (fun f hm => by
    obtain ⟨v, kd, h1, h2, h3⟩ := hstep f hm
    have hc : (Instr.checkKey b 9999 f.type v).run P w = .ok () w := by
      unfold Instr.checkKey
      simp only [Sem.run_bind, run_underlying h2, Result.andThen_ok]
      cases kd <;> simp [plainKey] at h3 <;> cases v <;> rfl
    by_cases hn : f.name = "_"
    · simp [hn, Sem.run_pure]
    · simp [hn, h1, hc, Sem.run_pure])
  rw [this]
  simp only [Result.andThen_ok, Sem.run_pure]

theorem structKey_run {kt : TypeId} {x : DV} (h : structKey P kt x = true) {m : Emb} {ρ : Env} {vx : Value} (hx : x.R m ρ vx) (b : Bool) (w : World) : (∃ fs, P.underlying kt = some (.struct fs)) ∧ (Instr.checkKey b 10000 kt vx).run P w = .ok () w := by
  unfold structKey at h
  split at h
  · rename_i fs l hk
    simp only [DV.R] at hx
    obtain ⟨cs, rfl, hl⟩ := hx
    refine ⟨⟨fs, hk⟩, checkStruct_run hk hl (fun f hf => ?_) b w⟩
    have := (List.all_eq_true.1 h) f hf
    simp only [Bool.and_eq_true] at this
    refine ⟨this.1, ?_⟩
    have h2 := this.2
    unfold plainT at h2
    split at h2
    · rename_i kd hkd; exact ⟨kd, hkd, h2⟩
    · cases h2
  · cases h

theorem findS_sound {m : Emb} {ρ : Env} (hF : F.ok ρ) {kt : TypeId} {x : DV} {vx : Value} (hx : x.R m ρ vx) (w : World) : ∀ {es : List (DV × DV)} {en : List MapEntry} {i : Nat} {r : Option (Nat × DV)}, findS P F kt x es i = some r →
    DV.RL m ρ (es.map (·.1)) (en.map (·.key)) → DV.RL m ρ (es.map (·.2)) (en.map (·.val)) →
    (r = none → (Instr.findAsking kt vx en i).run P w = .ok none w) ∧ (∀ j d, r = some (j, d) → ∃ v, (Instr.findAsking kt vx en i).run P w = .ok (some (j, v)) w ∧ d.R m ρ v)
  | [], en, i, r, h, h1, h2 => by
    simp only [findS] at h
    cases h
    simp only [List.map_nil, DV.RL, List.map_eq_nil_iff] at h1
    subst h1
    exact ⟨fun _ => by simp [Instr.findAsking, Sem.run_pure], fun j d hc => by cases hc⟩
  | (k, v) :: es, en, i, r, h, h1, h2 => by
    simp only [List.map_cons, DV.RL] at h1 h2
    obtain ⟨uk, ur, he, hk, hkr⟩ := h1
    match en, he with
    | e :: en, he =>
      simp only [List.map_cons, List.cons.injEq] at he
      obtain ⟨rfl, rfl⟩ := he
      obtain ⟨uv, uvr, he2, hv, hvr⟩ := h2
      simp only [List.map_cons, List.cons.injEq] at he2
      obtain ⟨rfl, rfl⟩ := he2
      simp only [findS] at h
      split at h
      · rename_i eq heq
        have hq := eqOp_run (P := P) hF heq hx hk w
        split at h
        · rename_i hd
          cases h
          rw [E.dec_sound hF hd] at hq
          refine ⟨(fun hc => by cases hc), fun j d hc => ?_⟩
          cases hc
          exact ⟨e.val, by simp [Instr.findAsking, hq, Sem.run_pure], hv⟩
        · rename_i hd
          rw [E.dec_sound hF hd] at hq
          obtain ⟨g1, g2⟩ := findS_sound hF hx w h hkr hvr
          refine ⟨fun hc => by simp [Instr.findAsking, hq, g1 hc], fun j d hc => ?_⟩
          obtain ⟨v', f1, f2⟩ := g2 j d hc
          exact ⟨v', by simp [Instr.findAsking, hq, f1], f2⟩
        · cases h
      · cases h

theorem findKey_struct {kt : TypeId} {fs : Array Field} (hk : P.underlying kt = some (.struct fs)) {vx : Value} {en : List MapEntry} {r : Option (Nat × Value)} {w : World} (h : (Instr.findAsking kt vx en).run P w = .ok r w) : (Instr.findKey kt vx en).run P w = .ok r w := by
  simp only [Instr.findKey, Sem.run_bind, run_underlying hk, Result.andThen_ok]
  cases en with
  | nil =>
    simp only [Instr.findNow]
    exact h
  | cons e en =>
    simp only [Instr.findNow, Instr.sameNow]
    exact h

theorem valE_sound {m : Emb} {ρ : Env} (hF : F.ok ρ) {h : T Blk} {t : T DV} {a : Act} {w : World} (hH : HeapR m ρ h w) (ht : TmpR m ρ t a) {o : Oper} {d : DV} (hd : valE P F h t o.op = some d) :
    ∃ v, (execOp a.eval o).run P w = .ok (.value v) w ∧ d.R m ρ v := by
  obtain ⟨dst, op, type, pos, after, guard⟩ := o
  simp only at hd
  cases op <;> simp only [valE, reduceCtorEq] at hd
  case lookup ty x ix ok =>
    split at hd
    · rename_i kt et dm dk hty hm hk
      split at hd
      · rename_i es hes
        split at hd
        · rename_i hsk
          have hx := opd_R ht hk
          obtain ⟨en, h1, h2, hv⟩ := entriesD_sound hH hes (opd_R ht hm)
          obtain ⟨⟨fs, hfs⟩, hck⟩ := structKey_run hsk hx en.isEmpty w
          have key : ∀ {r' : Option (Nat × Value)}, (Instr.findAsking kt (a.eval ix) en.toList).run P w = .ok r' w → ∀ {v : Value} {b : Bool}, ((∃ i, r' = some (i, v) ∧ b = true) ∨ (r' = none ∧ b = false ∧ (zeroValue et).run P w = .ok v w)) →
              (Instr.lookup ty (a.eval x) (a.eval ix) ok).run P w = .ok (if ok then .tuple #[v, .bool b] else v) w := by
            intro r' hr v b hz
            have hfk := findKey_struct hfs hr
            rcases hv with ⟨hvm, rfl⟩ | ⟨bb, clk, hvm, ho⟩
            · rw [hvm]
              rcases hz with ⟨i, rfl, rfl⟩ | ⟨rfl, rfl, hz⟩
              · simp only [Instr.lookup, Sem.run_bind, run_underlying hty, Result.andThen_ok, Sem.run_pure, hck, hfk]
              · simp only [Instr.lookup, Sem.run_bind, run_underlying hty, Result.andThen_ok, Sem.run_pure, hck, hfk, hz]
            · rw [hvm]
              have hgo : (getObj bb).run P w = .ok (.map en clk) w := by simp [getObj, Sem.run, ho]
              rcases hz with ⟨i, rfl, rfl⟩ | ⟨rfl, rfl, hz⟩
              · simp only [Instr.lookup, Sem.run_bind, run_underlying hty, Result.andThen_ok, hgo, Sem.run_pure, hck, hfk]
              · simp only [Instr.lookup, Sem.run_bind, run_underlying hty, Result.andThen_ok, hgo, Sem.run_pure, hck, hfk, hz]
          have fin : ∀ {dv : DV} {v : Value} {b : Bool}, dv.R m ρ v → (if ok then DV.tup [dv, .bool (.lb b)] else dv).R m ρ (if ok then .tuple #[v, .bool b] else v) := by
            intro dv v b hr
            cases ok with
            | true => simp only [if_true, DV.R, DV.RL]; exact ⟨_, rfl, v, _, rfl, hr, _, _, rfl, rfl, rfl⟩
            | false => simpa using hr
          split at hd
          · rename_i i v hf
            cases hd
            obtain ⟨_, g2⟩ := findS_sound hF hx w hf h1 h2
            obtain ⟨v', f1, f2⟩ := g2 i v rfl
            exact ⟨_, run_v (key f1 (.inl ⟨i, rfl, rfl⟩)), fin f2⟩
          · rename_i hf
            simp only [Option.map_eq_some_iff] at hd
            obtain ⟨z, hz, rfl⟩ := hd
            obtain ⟨g1, _⟩ := findS_sound hF hx w hf h1 h2
            obtain ⟨i, zv, hi, hzv, hr⟩ := zeroD_R hz m ρ
            exact ⟨_, run_v (key (g1 rfl) (.inr ⟨rfl, rfl, by simp [zeroValue, typeInfo, hi, hzv]⟩)), fin hr⟩
          · cases hd
        · cases hd
      · cases hd
    · cases hd
  all_goals simp at hd

theorem updS_sound {m : Emb} {ρ : Env} (hF : F.ok ρ) {h : T Blk} {n : Nat} {t : T DV} {a : Act} {w : World} (hH : HeapR m ρ h w) (ht : TmpR m ρ t a) {ty : TypeId} {om ok ox : Operand} {r : Out} (hd : updS P F h n t ty om ok ox = some r) :
    ∃ w', (Instr.mapUpdate ty (a.eval om) (a.eval ok) (a.eval ox)).run P w = .ok () w' ∧ r.d = .tup [] ∧ r.n = n ∧ HeapR m ρ r.h w' ∧ Trans m h w m r.h w' := by
  unfold updS at hd
  split at hd
  · rename_i kt et id dk dx hty hm hk hx
    split at hd
    · rename_i es hg
      split at hd
      · rename_i hsk
        split at hd
        · rename_i hfd
          cases hd
          obtain ⟨b, ob, hb, ho, en, clk, rfl, h1, h2, hcl, hbn⟩ := hH.blk id _ hg rfl
          have hRm := opd_R ht hm
          simp only [DV.R] at hRm
          obtain ⟨b', hb', hvm⟩ := hRm
          rw [hb] at hb'; cases hb'
          have hRk := opd_R ht hk
          have hRx := opd_R ht hx
          have hgo : (getObj b).run P w = .ok (.map en clk) w := by simp [getObj, Sem.run, ho]
          obtain ⟨⟨fs, hfs⟩, hck⟩ := structKey_run hsk hRk false w
          have hlt := (Array.getElem?_eq_some_iff.1 ho).1
          have hset : ∀ en' clk', (setObj b (.map en' clk')).run P w = .ok () { w with heap := w.heap.setIfInBounds b (.map en' clk') } := fun en' clk' => by simp [setObj, Sem.run, ho]
          obtain ⟨g1, _⟩ := findS_sound hF hRk w hfd h1 h2
          have hfk := findKey_struct hfs (g1 rfl)
          have hoth : ∀ c, c ≠ b → ({ w with heap := w.heap.setIfInBounds b (.map (en.push { key := a.eval ok, val := a.eval ox, born := clk }) (clk + 1)) } : World).heap[c]? = w.heap[c]? := fun c hc => by
            simp only [Array.getElem?_setIfInBounds]
            rw [if_neg (fun e => hc e.symm)]
          refine ⟨{ w with heap := w.heap.setIfInBounds b (.map (en.push { key := a.eval ok, val := a.eval ox, born := clk }) (clk + 1)) }, ?_, rfl, rfl, ?_, ?_⟩
          · rw [hvm]
            simp only [Instr.mapUpdate, Sem.run_bind, run_underlying hty, Result.andThen_ok, hgo, hck, hfk, hset]
          · refine hH.write (o := .map (en.push { key := a.eval ok, val := a.eval ox, born := clk }) (clk + 1)) hg rfl hb ?_ ⟨_, _, rfl, ?_, ?_, by simp [hcl], by simp [hbn, hcl, List.range_succ]⟩ rfl hoth
            · simp only [Array.getElem?_setIfInBounds, if_true]
              rw [if_pos hlt]
            · simp only [Array.toList_push, List.map_append, List.map_cons, List.map_nil]
              exact h1.append (by simp only [DV.RL]; exact ⟨_, _, rfl, hRk, rfl⟩)
            · simp only [Array.toList_push, List.map_append, List.map_cons, List.map_nil]
              exact h2.append (by simp only [DV.RL]; exact ⟨_, _, rfl, hRx, rfl⟩)
          · exact Trans.write hg rfl hb hoth (by simp) rfl rfl rfl
        · cases hd
      · cases hd
    · cases hd
  · cases hd

theorem entM_sound {m : Emb} {ρ : Env} (hF : F.ok ρ) {h : T Blk} {n : Nat} {t : T DV} {a : Act} {w : World} (hH : HeapR m ρ h w) (ht : TmpR m ρ t a) {ty : TypeId} {om ok : Operand} {r : Out} (hd : entM P F h n t ty om ok = some r) :
    ∃ v w', (Instr.mapEntry ty (a.eval om) (a.eval ok)).run P w = .ok v w' ∧ r.d.R m ρ v ∧ r.n = n ∧ HeapR m ρ r.h w' ∧ Trans m h w m r.h w' := by
  unfold entM at hd
  split at hd
  · rename_i kt et id dk hty hm hk
    split at hd
    · rename_i es z hg hz
      split at hd
      · rename_i hsk
        split at hd
        · rename_i hfd
          cases hd
          obtain ⟨b, ob, hb, ho, en, clk, rfl, h1, h2, hcl, hbn⟩ := hH.blk id _ hg rfl
          have hRm := opd_R ht hm
          simp only [DV.R] at hRm
          obtain ⟨b', hb', hvm⟩ := hRm
          rw [hb] at hb'; cases hb'
          have hRk := opd_R ht hk
          obtain ⟨iz, zv, hiz, hzv, hzr⟩ := zeroD_R hz m ρ
          have hgo : (getObj b).run P w = .ok (.map en clk) w := by simp [getObj, Sem.run, ho]
          obtain ⟨⟨fs, hfs⟩, hck⟩ := structKey_run hsk hRk false w
          have hlt := (Array.getElem?_eq_some_iff.1 ho).1
          have hset : ∀ en' clk', (setObj b (.map en' clk')).run P w = .ok () { w with heap := w.heap.setIfInBounds b (.map en' clk') } := fun en' clk' => by simp [setObj, Sem.run, ho]
          have hzero : (zeroValue et).run P w = .ok zv w := by simp [zeroValue, typeInfo, hiz, hzv]
          obtain ⟨g1, _⟩ := findS_sound hF hRk w hfd h1 h2
          have hfk := findKey_struct hfs (g1 rfl)
          have hoth : ∀ c, c ≠ b → ({ w with heap := w.heap.setIfInBounds b (.map (en.push { key := a.eval ok, val := zv, born := clk }) (clk + 1)) } : World).heap[c]? = w.heap[c]? := fun c hc => by
            simp only [Array.getElem?_setIfInBounds]
            rw [if_neg (fun e => hc e.symm)]
          have hl := h1.length
          simp only [List.length_map, Array.length_toList] at hl
          refine ⟨.tuple #[zv, goInt clk], { w with heap := w.heap.setIfInBounds b (.map (en.push { key := a.eval ok, val := zv, born := clk }) (clk + 1)) }, ?_, ?_, rfl, ?_, ?_⟩
          · rw [hvm]
            simp only [Instr.mapEntry, Sem.run_bind, run_underlying hty, Result.andThen_ok, hgo, hck, hfk, hzero, hset, Sem.run_pure]
          · simp only [DV.R, DV.RL]
            exact ⟨_, rfl, zv, _, rfl, hzr, _, _, rfl, by simp only [goInt, E.ev, Sc.int_I]; rw [hcl, hl], rfl⟩
          · refine hH.write (o := .map (en.push { key := a.eval ok, val := zv, born := clk }) (clk + 1)) hg rfl hb ?_ ⟨_, _, rfl, ?_, ?_, by simp [hcl], by simp [hbn, hcl, List.range_succ]⟩ rfl hoth
            · simp only [Array.getElem?_setIfInBounds, if_true]
              rw [if_pos hlt]
            · simp only [Array.toList_push, List.map_append, List.map_cons, List.map_nil]
              exact h1.append (by simp only [DV.RL]; exact ⟨_, _, rfl, hRk, rfl⟩)
            · simp only [Array.toList_push, List.map_append, List.map_cons, List.map_nil]
              exact h2.append (by simp only [DV.RL]; exact ⟨_, _, rfl, hzr, rfl⟩)
          · exact Trans.write hg rfl hb hoth (by simp) rfl rfl rfl
        · cases hd
      · cases hd
    · cases hd
  · cases hd

theorem findIdx_born : ∀ {l : List MapEntry} {k i : Nat}, l.map (·.born) = List.range' k l.length → i < l.length → l.findIdx? (fun e => (e.born : Int) == ((k + i : Nat) : Int)) = some i
  | [], k, i, _, h => by simp at h
  | e :: l, k, i, hb, h => by
    simp only [List.map_cons, List.length_cons, List.range'_succ, List.cons.injEq] at hb
    rw [List.findIdx?_cons]
    cases i with
    | zero => simp [hb.1]
    | succ i =>
      have hne : ((e.born : Int) == ((k + (i + 1) : Nat) : Int)) = false := by rw [hb.1]; simp; omega
      rw [hne]
      have := findIdx_born (l := l) (k := k + 1) (i := i) hb.2 (by simpa using h)
      simp only [Bool.false_eq_true, if_false]
      rw [show (k + (i + 1) : Nat) = k + 1 + i by omega, this]
      rfl

theorem entSt_sound {m : Emb} {ρ : Env} {h : T Blk} {n : Nat} {t : T DV} {a : Act} {w : World} (hH : HeapR m ρ h w) (ht : TmpR m ρ t a) {ty : TypeId} {om os ox : Operand} {r : Out} (hd : entSt h n t om os ox = some r) :
    ∃ w', (Instr.entryStore ty (a.eval om) (a.eval os) (a.eval ox)).run P w = .ok () w' ∧ r.d = .tup [] ∧ r.n = n ∧ HeapR m ρ r.h w' ∧ Trans m h w m r.h w' := by
  unfold entSt at hd
  split at hd
  · rename_i id k i dx hm hs hx
    split at hd
    · rename_i es hg
      split at hd
      · rename_i p hp
        split at hd
        · rename_i h0
          cases hd
          obtain ⟨b, ob, hb, ho, en, clk, rfl, h1, h2, hcl, hbn⟩ := hH.blk id _ hg rfl
          have hRm := opd_R ht hm
          simp only [DV.R] at hRm
          obtain ⟨b', hb', hvm⟩ := hRm
          rw [hb] at hb'; cases hb'
          have hRs := opd_R ht hs
          simp only [DV.R, E.ev, Sc.int_I] at hRs
          have hRx := opd_R ht hx
          have hgo : (getObj b).run P w = .ok (.map en clk) w := by simp [getObj, Sem.run, ho]
          have hlt := (Array.getElem?_eq_some_iff.1 ho).1
          have hl := h1.length
          simp only [List.length_map, Array.length_toList] at hl
          have hil : i.toNat < en.size := by
            have := (List.getElem?_eq_some_iff.1 hp).1
            omega
          have hidx : en.findIdx? (fun e => (e.born : Int) == i) = some i.toNat := by
            have := findIdx_born (l := en.toList) (k := 0) (i := i.toNat) (by rw [hbn, List.range_eq_range', Array.length_toList]) (by simpa using hil)
            rw [Nat.zero_add, Int.toNat_of_nonneg h0] at this
            rw [← this]
            obtain ⟨l⟩ := en
            simp
          have hset : ∀ en' clk', (setObj b (.map en' clk')).run P w = .ok () { w with heap := w.heap.setIfInBounds b (.map en' clk') } := fun en' clk' => by simp [setObj, Sem.run, ho]
          have hoth : ∀ c, c ≠ b → ({ w with heap := w.heap.setIfInBounds b (.map (en.modify i.toNat fun e => { e with val := a.eval ox }) clk) } : World).heap[c]? = w.heap[c]? := fun c hc => by
            simp only [Array.getElem?_setIfInBounds]
            rw [if_neg (fun e => hc e.symm)]
          have gen : ∀ {β : Type} (f : MapEntry → β), (∀ e, f { e with val := a.eval ox } = f e) → (en.modify i.toNat fun e => { e with val := a.eval ox }).toList.map f = en.toList.map f := by
            intro β f hf
            apply List.ext_getElem?
            intro j
            simp only [Array.toList_modify, List.getElem?_map, List.getElem?_modify]
            by_cases hj : i.toNat = j
            · subst hj; cases en.toList[i.toNat]? <;> simp [hf]
            · simp [hj]
          refine ⟨{ w with heap := w.heap.setIfInBounds b (.map (en.modify i.toNat fun e => { e with val := a.eval ox }) clk) }, ?_, rfl, rfl, ?_, ?_⟩
          · rw [hvm, hRs]
            simp only [Instr.entryStore, Sem.run_bind, Result.andThen_ok, hgo, asInt, Sem.run_pure, asIntOf, hidx, hset]
          · refine hH.write (o := .map (en.modify i.toNat fun e => { e with val := a.eval ox }) clk) hg rfl hb ?_ ⟨_, _, rfl, ?_, ?_, by simpa using hcl, by rw [gen (·.born) (fun _ => rfl), Array.size_modify]; exact hbn⟩ rfl hoth
            · simp only [Array.getElem?_setIfInBounds, if_true]
              rw [if_pos hlt]
            · rw [gen (·.key) (fun _ => rfl), show (es.set i.toNat (p.1, dx)).map (·.1) = es.map (·.1) by
                rw [List.map_set]
                apply List.ext_getElem?
                intro j
                rw [List.getElem?_set]
                by_cases hj : i.toNat = j
                · subst hj
                  have hlt2 := (List.getElem?_eq_some_iff.1 hp).1
                  have he := (List.getElem?_eq_some_iff.1 hp).2
                  simp [hlt2, he]
                · simp [hj]]
              exact h1
            · have e1 : (en.modify i.toNat fun e => { e with val := a.eval ox }).toList.map (·.val) = (en.toList.map (·.val)).set i.toNat (a.eval ox) := by
                apply List.ext_getElem?
                intro j
                simp only [Array.toList_modify, List.getElem?_map, List.getElem?_modify, List.getElem?_set, List.length_map]
                by_cases hj : i.toNat = j
                · subst hj
                  have he2 : en.toList[i.toNat]? = some en[i.toNat] := by simp [hil]
                  simp [he2, hil]
                · simp [hj]
              rw [e1, List.map_set]
              exact h2.set i.toNat hRx
          · exact Trans.write hg rfl hb hoth (by simp) rfl rfl rfl
        · cases hd
      · cases hd
    · cases hd
  · cases hd

theorem memE_sound {m : Emb} {ρ : Env} (hF : F.ok ρ) {h : T Blk} {n : Nat} {t : T DV} {a : Act} {w : World} (hH : HeapR m ρ h w) (ht : TmpR m ρ t a) (hf : ∀ id, n ≤ id → m.ι id = none) {o : Oper} {r : Out}
    (hd : memE P F h n t o.op = some r) : OpOk m ρ h w ((execOp a.eval o).run P w) r := by
  obtain ⟨dst, op, type, pos, after, guard⟩ := o
  simp only at hd
  cases op <;> simp only [memE, reduceCtorEq] at hd
  case mapEntry ty m' k =>
    obtain ⟨v, w', hrun, hr, e2, hH', hT⟩ := entM_sound hF hH ht hd
    exact ⟨_, v, w', m, run_v hrun, .inl rfl, hr, hH', hT, by rw [e2]; exact hf⟩
  case entryStore ty m' s x =>
    obtain ⟨w', hrun, e1, e2, hH', hT⟩ := entSt_sound (P := P) (ty := ty) hH ht hd
    refine ⟨.skip, undef, w', m, ?_, .inr ⟨rfl, rfl⟩, by rw [e1]; simp [DV.R, DV.RL, undef], hH', hT, by rw [e2]; exact hf⟩
    simp only [execOp, Sem.run_bind, hrun, Result.andThen_ok, Sem.run_pure]
  case mapUpdate ty m' k x =>
    obtain ⟨w', hrun, e1, e2, hH', hT⟩ := updS_sound hF hH ht hd
    refine ⟨.skip, undef, w', m, ?_, .inr ⟨rfl, rfl⟩, by rw [e1]; simp [DV.R, DV.RL, undef], hH', hT, by rw [e2]; exact hf⟩
    simp only [execOp, Sem.run_bind, hrun, Result.andThen_ok, Sem.run_pure]
  case insert ty m' k x =>
    obtain ⟨w', hrun, e1, e2, hH', hT⟩ := updS_sound hF hH ht hd
    refine ⟨.skip, undef, w', m, ?_, .inr ⟨rfl, rfl⟩, by rw [e1]; simp [DV.R, DV.RL, undef], hH', hT, by rw [e2]; exact hf⟩
    simp only [execOp, Sem.run_bind, hrun, Result.andThen_ok, Sem.run_pure]
  all_goals simp at hd

theorem valDE_sound {m : Emb} {ρ : Env} (hF : F.ok ρ) {h : T Blk} {t : T DV} {a : Act} {w : World} (hH : HeapR m ρ h w) (ht : TmpR m ρ t a) {o : Oper} {d : DV} (hd : valDE P F h t o.op = some d) :
    ∃ v, (execOp a.eval o).run P w = .ok (.value v) w ∧ d.R m ρ v := by
  unfold valDE at hd
  split at hd
  · rename_i d' h'; cases hd; exact valAC_sound hF hH ht h'
  · exact valE_sound hF hH ht hd

theorem memDE_sound {m : Emb} {ρ : Env} (hF : F.ok ρ) {h : T Blk} {n : Nat} {t : T DV} {a : Act} {w : World} (hH : HeapR m ρ h w) (ht : TmpR m ρ t a) (hf : ∀ id, n ≤ id → m.ι id = none) {o : Oper} {r : Out}
    (hd : memDE P F h n t o.op = some r) : OpOk m ρ h w ((execOp a.eval o).run P w) r := by
  unfold memDE at hd
  split at hd
  · rename_i r' h'; cases hd; exact memAM_sound hF hH ht hf h'
  · exact memE_sound hF hH ht hf hd
end
end Go.Eng
