/-
  Bytes of strings.
-/
import Derived.Test.YtcebboibpbbgdaaGreatDoorEngG3
import Derived.Lib.ConvBytes
import Derived.Maps.RangeRun
namespace Go.Eng

/-- What is known stays known where a block is laid. -/
theorem HeapR.grow {m : Emb} {ρ : Env} {h : T Blk} {w w' : World} (hr : HeapR m ρ h w) {id n : Nat} (hid : m.ι id = none) {B : Blk} {o : Obj}
    (hold : ∀ j, j < w.heap.size → w'.heap[j]? = w.heap[j]?) (hnew : w'.heap[w.heap.size]? = some o)
    (hB : B.R (m.put id w.heap.size n) ρ n o) : HeapR (m.put id w.heap.size n) ρ (h.set id B) w' where
  blk := fun i C hC hl => by
    rw [T.get_set] at hC
    split at hC
    · rename_i e; cases hC; subst e
      exact ⟨w.heap.size, o, by simp [Emb.put], hnew, by simpa [Emb.put] using hB⟩
    · rename_i e
      obtain ⟨b, p, h1, h2, h3⟩ := hr.blk i C hC hl
      refine ⟨b, p, by simp [Emb.put, e, h1], ?_, by simpa [Emb.put, e] using h3.mono (Emb.le_put hid)⟩
      rw [hold b (Array.getElem?_eq_some_iff.1 h2).1]
      exact h2
  inj := fun i j C D b hC hD hrw hl hi hj => by
    rw [T.get_set] at hC hD
    split at hC
    · rename_i e; subst e
      split at hD
      · rename_i e'; exact e'.symm
      · rename_i e'
        simp [Emb.put] at hi
        simp [Emb.put, e'] at hj
        have := hr.lt hD hl hj
        omega
    · rename_i e
      split at hD
      · rename_i e'; subst e'
        simp [Emb.put] at hj
        simp [Emb.put, e] at hi
        have := hr.lt hC (Blk.live_of_rw hrw) hi
        omega
      · rename_i e'
        simp [Emb.put, e, e'] at hi hj
        exact hr.inj i j C D b hC hD hrw hl hi hj

theorem Trans.grow {m : Emb} {h : T Blk} {w w' : World} {id n : Nat} (hid : m.ι id = none) (B : Blk) (hold : ∀ j, j < w.heap.size → w'.heap[j]? = w.heap[j]?) (hsz : w'.heap.size = w.heap.size + 1)
    (ht : w'.tape = w.tape) (ho : w'.os = w.os) (hout : w'.output = w.output) : Trans m h w (m.put id w.heap.size n) (h.set id B) w' where
  ext := Emb.le_put hid
  size := by omega
  frame := fun b hb _ => hold b hb
  fp := fun b ⟨i, C, hC, hrw, hi⟩ => by
    rw [T.get_set] at hC
    split at hC
    · rename_i e; subst e; simp [Emb.put] at hi; exact .inr (by omega)
    · rename_i e; simp [Emb.put, e] at hi; exact .inl ⟨i, C, hC, hrw, hi⟩
  tape := ht
  os := ho
  output := hout

section
variable (P : Program) (F : Facts)

def memC (h : T Blk) (n : Nat) (t : T DV) : Op → Option Out
  | .convert src dst x => match P.underlying src, P.underlying dst, opd t x with
    | some _, some (.slice e), some (.str s) => match P.underlying e, lenS s with
      | some (.int .u8), .li k => if 0 ≤ k then
          some ⟨.slc n ⟨0, []⟩ (.li k) (.own (.li 0)), h.set n (.cells ((List.range k.toNat).map fun (i : Nat) => .int .u8 (atS s (.li (i : Int)))) e .ro), n + 1⟩ else none
      | _, _ => none
    | _, _, _ => none
  | _ => none

def memABC (h : T Blk) (n : Nat) (t : T DV) (op : Op) : Option Out := match memAB P F h n t op with
  | some r => some r
  | none => memC P h n t op

variable {P} {F}

theorem memC_sound {m : Emb} {ρ : Env} {h : T Blk} {n : Nat} {t : T DV} {a : Act} {w : World} (hH : HeapR m ρ h w) (ht : TmpR m ρ t a) (hf : ∀ id, n ≤ id → m.ι id = none) {o : Oper} {r : Out}
    (hd : memC P h n t o.op = some r) : OpOk m ρ h w ((execOp a.eval o).run P w) r := by
  obtain ⟨dst, op, type, pos, after, guard⟩ := o
  simp only at hd
  cases op <;> simp only [memC, reduceCtorEq] at hd
  case convert src dst' x =>
    split at hd
    · rename_i u e s hs hu hx
      split at hd
      · rename_i k he hk
        split at hd
        · rename_i h0
          cases hd
          have hR := opd_R ht hx
          simp only [DV.R] at hR
          have hsz : ((s.ev ρ).str.size : Int) = k := by
            have := lenS_int ρ s
            rw [hk] at this
            simpa [E.ev] using this.symm
          have hsz' : k.toNat = (s.ev ρ).str.size := by omega
          have hn := hf n (Nat.le_refl _)
          have hrun := Lib.run_convert_string_bytes (P := P) w src dst' e (s.ev ρ).str hs hu he
          have hge := grownCap_ge w (s.ev ρ).str.size 0 e
          have hr0 : (execOp a.eval ⟨dst, .convert src dst' x, type, pos, after, guard⟩).run P w = .ok (.value (.slice (some ⟨w.heap.size, 0, none⟩) (s.ev ρ).str.size (grownCap w (s.ev ρ).str.size 0 e))) (Lib.bytesWorld w e (s.ev ρ).str) := by
            simp only [execOp]
            rw [hR]
            exact run_v hrun
          refine ⟨_, _, Lib.bytesWorld w e (s.ev ρ).str, m.put n w.heap.size (grownCap w (s.ev ρ).str.size 0 e), hr0, .inl rfl, ?_,
            hH.grow hn (fun j hj => Lib.bytesWorld_at_old w e _ j hj) (Lib.bytesWorld_at_new w e _) ⟨_, _, ⟨_, rfl⟩, ?_, fun j d hd => ?_, trivial⟩,
            Trans.grow hn _ (fun j hj => Lib.bytesWorld_at_old w e _ j hj) (Lib.bytesWorld_size w e _) rfl rfl rfl, put_fresh hf⟩
          · simp only [DV.R, E.ev, Sc.int_I, Cap.den]
            refine ⟨w.heap.size, by simp [Emb.put], ?_, h0, by simp [Emb.put]; omega⟩
            simp [Off.den, sumT, Emb.put, hsz']
          · simp only [List.length_map, List.length_range, Lib.bytesCells, Array.size_append, Array.size_map, Array.size_replicate]
            have : (s.ev ρ).str.data.size = (s.ev ρ).str.size := rfl
            omega
          · simp only [List.getElem?_map, Option.map_eq_some_iff] at hd
            obtain ⟨i, hi, rfl⟩ := hd
            obtain ⟨hlt, rfl⟩ := range_get hi
            have hlt' : j < (s.ev ρ).str.data.size := by
              have : (s.ev ρ).str.data.size = (s.ev ρ).str.size := rfl
              omega
            refine ⟨.int .u8 (byteAt (s.ev ρ).str j), ?_, by simp only [DV.R]; rw [atS_int]; rfl⟩
            simp only [Lib.bytesCells]
            rw [Array.getElem?_append_left (by simpa using hlt')]
            rw [Array.getElem?_map, Array.getElem?_eq_getElem hlt']
            simp only [Option.map_some, byteAt, Int.toNat_natCast, List.getD_eq_getElem?_getD, Array.getElem?_toList, Array.getElem?_eq_getElem hlt', Option.getD_some]
        · cases hd
      · cases hd
    · cases hd
  all_goals simp at hd

theorem memABC_sound {m : Emb} {ρ : Env} (hF : F.ok ρ) {h : T Blk} {n : Nat} {t : T DV} {a : Act} {w : World} (hH : HeapR m ρ h w) (ht : TmpR m ρ t a) (hf : ∀ id, n ≤ id → m.ι id = none) {o : Oper} {r : Out}
    (hd : memABC P F h n t o.op = some r) : OpOk m ρ h w ((execOp a.eval o).run P w) r := by
  unfold memABC at hd
  split at hd
  · rename_i r' h'; cases hd; exact memAB_sound hF hH ht hf h'
  · exact memC_sound hH ht hf hd
end
end Go.Eng

/-
  Maps whose keys are numbers, bools or strings.
-/
namespace Go.Eng

section
variable (P : Program) (F : Facts)

def plainKey : TypeDesc → Bool
  | .int _ => true
  | .bool => true
  | .string => true
  | _ => false

/-- Are two keys the same one? -/
def eqK : TypeDesc → DV → DV → Option Bool
  | .int _, .int k a, .int k' b => if k = k' then (E.bi .eqi a b).dec F else none
  | .string, .str a, .str b => (E.bi .eqs a b).dec F
  | .bool, .bool a, .bool b => (E.bi .eqb a b).dec F
  | _, _, _ => none

def findD (kd : TypeDesc) (x : DV) : List (DV × DV) → Nat → Option (Option (Nat × DV))
  | [], _ => some none
  | (k, v) :: r, i => match eqK F kd x k with
    | some true => some (some (i, v))
    | some false => findD kd x r (i + 1)
    | none => none

def entriesD (h : T Blk) : DV → Option (List (DV × DV))
  | .nilm => some []
  | .mp id => match h.get id with
    | some (.mpb es) => some es
    | _ => none
  | _ => none

/-- What is found under a key. -/
def lookD (h : T Blk) (kt et : TypeId) (d x : DV) : Option (DV × Bool) :=
  match P.underlying kt, entriesD h d with
  | some kd, some es => if plainKey kd then (match findD F kd x es 0 with
      | some (some (_, v)) => some (v, true)
      | some none => (zeroD P et).map fun z => (z, false)
      | none => none) else none
  | _, _ => none

def valC (h : T Blk) (t : T DV) : Op → Option DV
  | .lookup ty x ix ok => match P.underlying ty, opd t x, opd t ix with
    | some (.map kt et), some d, some k => match lookD P F h kt et d k with
      | some (v, b) => some (if ok then .tup [v, .bool (.lb b)] else v)
      | none => none
    | _, _, _ => none
  | .call c => match c.callee, c.args.toList.mapM (opd t) with
    | .builtin .len, some [.mp id] => match c.argTypes[0]?, h.get id with
      | some ty, some (.mpb es) => (match P.underlying ty with
        | some (.map _ _) => some (.int .i64 (.li es.length))
        | _ => none)
      | _, _ => none
    | _, _ => none
  | _ => none

/-- What a map is where something is laid under a key. -/
def putK (kd : TypeDesc) (es : List (DV × DV)) (k v : DV) : Option (List (DV × DV)) := match findD F kd k es 0 with
  | some (some (i, _)) => some (es.set i (k, v))
  | some none => some (es ++ [(k, v)])
  | none => none

def updM (h : T Blk) (n : Nat) (t : T DV) (ty : TypeId) (m k x : Operand) : Option Out :=
  match P.underlying ty, opd t m, opd t k, opd t x with
  | some (.map kt _), some (.mp id), some dk, some dx => match P.underlying kt, h.get id with
    | some kd, some (.mpb es) => if plainKey kd then (putK F kd es dk dx).map fun es' => ⟨.tup [], h.set id (.mpb es'), n⟩ else none
    | _, _ => none
  | _, _, _, _ => none

def memM (h : T Blk) (n : Nat) (t : T DV) : Op → Option Out
  | .makeMap ty r => match r with
    | none => some ⟨.mp n, h.set n (.mpb []), n + 1⟩
    | some x => (match P.underlying ty, opd t x with
      | some (.map _ _), some (.int _ _) => some ⟨.mp n, h.set n (.mpb []), n + 1⟩
      | _, _ => none)
  | .mapUpdate ty m k x => updM P F h n t ty m k x
  | .insert ty m k x => updM P F h n t ty m k x
  | _ => none

def valAC (h : T Blk) (t : T DV) (op : Op) : Option DV := match valAB P F h t op with
  | some d => some d
  | none => valC P F h t op

def memAM (h : T Blk) (n : Nat) (t : T DV) (op : Op) : Option Out := match memABC P F h n t op with
  | some r => some r
  | none => memM P F h n t op

variable {P} {F}

theorem eqK_sound {m : Emb} {ρ : Env} (hF : F.ok ρ) {kd : TypeDesc} {x y : DV} {b : Bool} (h : eqK F kd x y = some b) {vx vy : Value} (hx : x.R m ρ vx) (hy : y.R m ρ vy) :
    Instr.sameNow kd vx vy = some b ∧ (b = true → vy = vx) ∧ Instr.sameBits 10000 vx vx = true := by
  unfold eqK at h
  split at h
  · rename_i k a k' c
    split at h
    · rename_i e
      subst e
      have := E.dec_sound hF h
      simp only [DV.R] at hx hy
      subst hx; subst hy
      simp only [E.ev, B2.ev, Sc.bool_B] at this
      refine ⟨?_, fun hb => ?_, by simp [Instr.sameBits]⟩
      · simp only [Instr.sameNow, if_true]
        rw [← this]
        congr 1
      · rw [hb] at this
        rw [of_decide_eq_true this]
    · cases h
  · rename_i a c
    have := E.dec_sound hF h
    simp only [DV.R] at hx hy
    subst hx; subst hy
    simp only [E.ev, B2.ev, Sc.bool_B] at this
    refine ⟨by simp only [Instr.sameNow]; rw [← this, beq_bytes], fun hb => ?_, by simp [Instr.sameBits, beq_bytes]⟩
    rw [hb] at this
    rw [of_decide_eq_true this]
  · rename_i a c
    have := E.dec_sound hF h
    simp only [DV.R] at hx hy
    subst hx; subst hy
    simp only [E.ev, B2.ev, Sc.bool_B] at this
    refine ⟨?_, fun hb => ?_, by simp [Instr.sameBits]⟩
    · simp only [Instr.sameNow]
      rw [← this]
      congr 1
    · rw [hb] at this
      rw [of_decide_eq_true this]
  · cases h

theorem findD_sound {m : Emb} {ρ : Env} (hF : F.ok ρ) {kd : TypeDesc} {x : DV} {vx : Value} (hx : x.R m ρ vx) : ∀ {es : List (DV × DV)} {en : List MapEntry} {i : Nat} {r : Option (Nat × DV)}, findD F kd x es i = some r →
    DV.RL m ρ (es.map (·.1)) (en.map (·.key)) → DV.RL m ρ (es.map (·.2)) (en.map (·.val)) →
    (r = none → Instr.findNow kd vx en i = some none) ∧ (∀ j d, r = some (j, d) → ∃ v e, Instr.findNow kd vx en i = some (some (j, v)) ∧ d.R m ρ v ∧ i ≤ j ∧ en[j - i]? = some e ∧ e.key = vx ∧ Instr.sameBits 10000 vx vx = true)
  | [], en, i, r, h, h1, h2 => by
    simp only [findD] at h
    cases h
    simp only [List.map_nil, DV.RL, List.map_eq_nil_iff] at h1
    subst h1
    exact ⟨fun _ => rfl, fun j d hc => by cases hc⟩
  | (k, v) :: es, en, i, r, h, h1, h2 => by
    simp only [List.map_cons, DV.RL] at h1 h2
    obtain ⟨uk, ur, he, hk, hkr⟩ := h1
    match en, he with
    | e :: en, he =>
      simp only [List.map_cons, List.cons.injEq] at he
      obtain ⟨rfl, rfl⟩ := he
      obtain ⟨uv, uvr, he2, hv, hvr⟩ := h2
      simp only [List.map_cons, List.cons.injEq] at he2
      obtain ⟨rfl, rfl⟩ := he2
      simp only [findD] at h
      split at h
      · rename_i hq
        cases h
        obtain ⟨q1, q2, q3⟩ := eqK_sound hF hq hx hk
        refine ⟨(fun hc => by cases hc), fun j d hc => ?_⟩
        cases hc
        exact ⟨e.val, e, by simp only [Instr.findNow, q1], hv, Nat.le_refl _, by simp, q2 rfl, q3⟩
      · rename_i hq
        obtain ⟨q1, q2, q3⟩ := eqK_sound hF hq hx hk
        obtain ⟨g1, g2⟩ := findD_sound hF hx h hkr hvr
        refine ⟨fun hc => by simp only [Instr.findNow, q1]; exact g1 hc, fun j d hc => ?_⟩
        obtain ⟨v', e', f1, f2, f3, f4, f5⟩ := g2 j d hc
        refine ⟨v', e', by simp only [Instr.findNow, q1]; exact f1, f2, by omega, ?_, f5⟩
        rw [show j - i = (j - (i + 1)) + 1 by omega]
        simpa using f4
      · cases h

theorem checkKey_run {kt : TypeId} {kd : TypeDesc} (hk : P.underlying kt = some kd) (hp : plainKey kd = true) (b : Bool) (v : Value) (w : World) : (Instr.checkKey b 10000 kt v).run P w = .ok () w := by
  unfold Instr.checkKey
  simp only [Sem.run_bind, run_underlying hk, Result.andThen_ok]
  cases kd <;> simp [plainKey] at hp <;> cases v <;> rfl

theorem entriesD_sound {m : Emb} {ρ : Env} {h : T Blk} {w : World} (hH : HeapR m ρ h w) {d : DV} {es : List (DV × DV)} (he : entriesD h d = some es) {v : Value} (hd : d.R m ρ v) :
    ∃ en : Array MapEntry, DV.RL m ρ (es.map (·.1)) (en.toList.map (·.key)) ∧ DV.RL m ρ (es.map (·.2)) (en.toList.map (·.val)) ∧
      ((v = .map none ∧ en = #[]) ∨ ∃ b clk, v = .map (some b) ∧ w.heap[b]? = some (.map en clk)) := by
  unfold entriesD at he
  split at he
  · cases he
    simp only [DV.R] at hd
    exact ⟨#[], by simp [DV.RL], by simp [DV.RL], .inl ⟨hd, rfl⟩⟩
  · rename_i id
    split at he
    · rename_i es' hg
      cases he
      obtain ⟨b, ob, hb, ho, en, clk, rfl, h1, h2, hcl, hbn⟩ := hH.blk id _ hg rfl
      simp only [DV.R] at hd
      obtain ⟨b', hb', rfl⟩ := hd
      rw [hb] at hb'; cases hb'
      exact ⟨en, h1, h2, .inr ⟨b, clk, rfl, ho⟩⟩
    · cases he
  · cases he

theorem lookD_sound {m : Emb} {ρ : Env} (hF : F.ok ρ) {h : T Blk} {w : World} (hH : HeapR m ρ h w) {ty kt et : TypeId} (hty : P.underlying ty = some (.map kt et)) {d x r : DV} {b : Bool} (hl : lookD P F h kt et d x = some (r, b)) {vd vx : Value} (hd : d.R m ρ vd) (hx : x.R m ρ vx) :
    ∃ v, r.R m ρ v ∧ ∀ ok, (Instr.lookup ty vd vx ok).run P w = .ok (if ok then .tuple #[v, .bool b] else v) w := by
  unfold lookD at hl
  split at hl
  · rename_i kd es hkd hes
    split at hl
    · rename_i hp
      obtain ⟨en, h1, h2, hv⟩ := entriesD_sound hH hes hd
      have key : ∀ {r' : Option (Nat × Value)}, Instr.findNow kd vx en.toList 0 = some r' → ∀ {v : Value} {b : Bool}, ((∃ i, r' = some (i, v) ∧ b = true) ∨ (r' = none ∧ b = false ∧ (zeroValue et).run P w = .ok v w)) →
          ∀ ok, (Instr.lookup ty vd vx ok).run P w = .ok (if ok then .tuple #[v, .bool b] else v) w := by
        intro r' hr v b hz ok
        have hck := checkKey_run hkd hp en.isEmpty vx w
        have hfk : (Instr.findKey kt vx en.toList).run P w = .ok r' w := by
          simp only [Instr.findKey, Sem.run_bind, run_underlying hkd, Result.andThen_ok, hr, Sem.run_pure]
        rcases hv with ⟨rfl, rfl⟩ | ⟨bb, clk, rfl, ho⟩
        · rcases hz with ⟨i, rfl, rfl⟩ | ⟨rfl, rfl, hz⟩
          · simp only [Instr.lookup, Sem.run_bind, run_underlying hty, Result.andThen_ok, Sem.run_pure, hck, hfk]
          · simp only [Instr.lookup, Sem.run_bind, run_underlying hty, Result.andThen_ok, Sem.run_pure, hck, hfk, hz]
        · have hgo : (getObj bb).run P w = .ok (.map en clk) w := by simp [getObj, Sem.run, ho]
          rcases hz with ⟨i, rfl, rfl⟩ | ⟨rfl, rfl, hz⟩
          · simp only [Instr.lookup, Sem.run_bind, run_underlying hty, Result.andThen_ok, hgo, Sem.run_pure, hck, hfk]
          · simp only [Instr.lookup, Sem.run_bind, run_underlying hty, Result.andThen_ok, hgo, Sem.run_pure, hck, hfk, hz]
      split at hl
      · rename_i i v hf
        cases hl
        obtain ⟨_, g2⟩ := findD_sound hF hx hf h1 h2
        obtain ⟨v', e', f1, f2, _⟩ := g2 i r rfl
        exact ⟨v', f2, key f1 (.inl ⟨i, rfl, rfl⟩)⟩
      · rename_i hf
        simp only [Option.map_eq_some_iff, Prod.mk.injEq] at hl
        obtain ⟨z, hz, rfl, rfl⟩ := hl
        obtain ⟨g1, _⟩ := findD_sound hF hx hf h1 h2
        obtain ⟨i, zv, hi, hzv, hr⟩ := zeroD_R hz m ρ
        refine ⟨zv, hr, key (g1 rfl) (.inr ⟨rfl, rfl, ?_⟩)⟩
        simp [zeroValue, typeInfo, hi, hzv]
      · cases hl
    · cases hl
  · cases hl

theorem valC_sound {m : Emb} {ρ : Env} (hF : F.ok ρ) {h : T Blk} {t : T DV} {a : Act} {w : World} (hH : HeapR m ρ h w) (ht : TmpR m ρ t a) {o : Oper} {d : DV} (hd : valC P F h t o.op = some d) :
    ∃ v, (execOp a.eval o).run P w = .ok (.value v) w ∧ d.R m ρ v := by
  obtain ⟨dst, op, type, pos, after, guard⟩ := o
  simp only at hd
  cases op <;> simp only [valC, reduceCtorEq] at hd
  case lookup ty x ix ok =>
    split at hd
    · rename_i kt et dm dk hty hm hk
      split at hd
      · rename_i v b hl
        cases hd
        obtain ⟨v', hr, hrun⟩ := lookD_sound hF hH hty hl (opd_R ht hm) (opd_R ht hk)
        refine ⟨_, run_v (hrun ok), ?_⟩
        cases ok with
        | true => simp only [if_true, DV.R, DV.RL]; exact ⟨_, rfl, v', _, rfl, hr, _, _, rfl, rfl, rfl⟩
        | false => simpa using hr
      · cases hd
    · cases hd
  case call c =>
    obtain ⟨callee, args, argTypes⟩ := c
    simp only at hd
    split at hd
    · rename_i id hargs
      split at hd
      · rename_i ty es hty hg
        split at hd
        · rename_i kt et hu
          cases hd
          have hA := opds_R ht hargs
          simp only [DV.RL] at hA
          obtain ⟨v0, vr, he, hR, rfl⟩ := hA
          have hmap : args.map a.eval = #[v0] := Array.toList_inj.1 (by rw [Array.toList_map]; exact he)
          obtain ⟨b, ob, hb, ho, en, clk, rfl, h1, h2, hcl, hbn⟩ := hH.blk id _ hg rfl
          simp only [DV.R] at hR
          obtain ⟨b', hb', rfl⟩ := hR
          rw [hb] at hb'; cases hb'
          have hl := h1.length
          simp only [List.length_map, Array.length_toList] at hl
          have hgo : (getObj b).run P w = .ok (.map en clk) w := by simp [getObj, Sem.run, ho]
          refine ⟨.int .i64 es.length, ?_, rfl⟩
          have : (Builtin.len_ argTypes type #[.map (some b)]).run P w = .ok (.int .i64 es.length) w := by
            simp [Builtin.len_, hty, run_underlying hu, hgo, goInt, hl]
          simp [execOp, resolve, hmap, invoke, builtin, this]
        · cases hd
      · cases hd
    · cases hd
  all_goals simp at hd

theorem DV.RL.set {m : Emb} {ρ : Env} : ∀ {l : List DV} {vs : List Value} (i : Nat) {d : DV} {v : Value}, DV.RL m ρ l vs → d.R m ρ v → DV.RL m ρ (l.set i d) (vs.set i v)
  | [], vs, i, d, v, h, _ => by simp only [DV.RL] at h; subst h; simp [DV.RL]
  | a :: l, vs, i, d, v, h, hd => by
    simp only [DV.RL] at h
    obtain ⟨u, ur, rfl, h1, h2⟩ := h
    cases i with
    | zero => simp only [List.set_cons_zero, DV.RL]; exact ⟨v, ur, rfl, hd, h2⟩
    | succ i => simp only [List.set_cons_succ, DV.RL]; exact ⟨u, _, rfl, h1, h2.set i hd⟩

theorem updM_sound {m : Emb} {ρ : Env} (hF : F.ok ρ) {h : T Blk} {n : Nat} {t : T DV} {a : Act} {w : World} (hH : HeapR m ρ h w) (ht : TmpR m ρ t a) (_ : ∀ id, n ≤ id → m.ι id = none) {ty : TypeId} {om ok ox : Operand} {r : Out} (hd : updM P F h n t ty om ok ox = some r) :
    ∃ w', (Instr.mapUpdate ty (a.eval om) (a.eval ok) (a.eval ox)).run P w = .ok () w' ∧ r.d = .tup [] ∧ r.n = n ∧ HeapR m ρ r.h w' ∧ Trans m h w m r.h w' := by
  unfold updM at hd
  split at hd
  · rename_i kt et id dk dx hty hm hk hx
    split at hd
    · rename_i kd es hkd hg
      split at hd
      · rename_i hp
        simp only [Option.map_eq_some_iff] at hd
        obtain ⟨es', hes', rfl⟩ := hd
        obtain ⟨b, ob, hb, ho, en, clk, rfl, h1, h2, hcl, hbn⟩ := hH.blk id _ hg rfl
        have hRm := opd_R ht hm
        simp only [DV.R] at hRm
        obtain ⟨b', hb', hvm⟩ := hRm
        rw [hb] at hb'; cases hb'
        have hRk := opd_R ht hk
        have hRx := opd_R ht hx
        have hgo : (getObj b).run P w = .ok (.map en clk) w := by simp [getObj, Sem.run, ho]
        have hck := checkKey_run hkd hp false (a.eval ok) w
        have hlt := (Array.getElem?_eq_some_iff.1 ho).1
        have hset : ∀ en' clk', (setObj b (.map en' clk')).run P w = .ok () { w with heap := w.heap.setIfInBounds b (.map en' clk') } := fun en' clk' => by simp [setObj, Sem.run, ho]
        have fin : ∀ (en' : Array MapEntry) (clk' : Nat), (Instr.mapUpdate ty (a.eval om) (a.eval ok) (a.eval ox)).run P w = .ok () { w with heap := w.heap.setIfInBounds b (.map en' clk') } →
            DV.RL m ρ (es'.map (·.1)) (en'.toList.map (·.key)) → DV.RL m ρ (es'.map (·.2)) (en'.toList.map (·.val)) → clk' = en'.size → en'.toList.map (·.born) = List.range en'.size →
            ∃ w', (Instr.mapUpdate ty (a.eval om) (a.eval ok) (a.eval ox)).run P w = .ok () w' ∧ (⟨.tup [], h.set id (.mpb es'), n⟩ : Out).d = .tup [] ∧ (⟨.tup [], h.set id (.mpb es'), n⟩ : Out).n = n ∧ HeapR m ρ (h.set id (.mpb es')) w' ∧ Trans m h w m (h.set id (.mpb es')) w' := by
          intro en' clk' hrun r1 r2 r3 r4
          have hoth : ∀ c, c ≠ b → ({ w with heap := w.heap.setIfInBounds b (.map en' clk') } : World).heap[c]? = w.heap[c]? := fun c hc => by
            simp only [Array.getElem?_setIfInBounds]
            rw [if_neg (fun e => hc e.symm)]
          refine ⟨_, hrun, rfl, rfl, ?_, ?_⟩
          · refine hH.write (o := .map en' clk') hg rfl hb ?_ ⟨en', clk', rfl, r1, r2, r3, r4⟩ rfl hoth
            simp only [Array.getElem?_setIfInBounds, if_true]
            rw [if_pos hlt]
          · exact Trans.write hg rfl hb hoth (by simp) rfl rfl rfl
        unfold putK at hes'
        split at hes'
        · rename_i i dv hfd
          cases hes'
          obtain ⟨_, g2⟩ := findD_sound hF hRk hfd h1 h2
          obtain ⟨v', e, f1, f2, f3, f4, f5, f6⟩ := g2 i dv rfl
          have hfk : (Instr.findKey kt (a.eval ok) en.toList).run P w = .ok (some (i, v')) w := by
            simp only [Instr.findKey, Sem.run_bind, run_underlying hkd, Result.andThen_ok, f1, Sem.run_pure]
          have hei : en[i]? = some e := by simpa using f4
          refine fin (en.modify i fun e => { e with key := a.eval ok, val := a.eval ox }) clk ?_ ?_ ?_ (by simpa using hcl) (by
            have e1 : (en.modify i fun e => { e with key := a.eval ok, val := a.eval ox }).toList.map (·.born) = en.toList.map (·.born) := by
              apply List.ext_getElem?
              intro j
              simp only [Array.toList_modify, List.getElem?_map, List.getElem?_modify]
              by_cases hj : i = j
              · subst hj; cases en.toList[i]? <;> simp
              · simp [hj]
            rw [e1, Array.size_modify]
            exact hbn)
          · rw [hvm]
            simp only [Instr.mapUpdate, Sem.run_bind, run_underlying hty, Result.andThen_ok, hgo, hck, hfk, hei, Option.map_some, Option.getD_some, f5, Instr.keyThatStays, f6, if_true, Sem.run_pure, hset]
          · have e1 : (en.modify i fun e => { e with key := a.eval ok, val := a.eval ox }).toList.map (·.key) = (en.toList.map (·.key)).set i (a.eval ok) := by
              apply List.ext_getElem?
              intro j
              simp only [Array.toList_modify, List.getElem?_map, List.getElem?_modify, List.getElem?_set, List.length_map]
              by_cases hj : i = j
              · subst hj
                have hil := (Array.getElem?_eq_some_iff.1 hei).1
                have he2 : en.toList[i]? = some e := by simpa using hei
                simp [hil]
              · simp [hj]
            rw [e1, show (es.set i (dk, dx)).map (·.1) = (es.map (·.1)).set i dk by rw [List.map_set]]
            exact h1.set i hRk
          · have e1 : (en.modify i fun e => { e with key := a.eval ok, val := a.eval ox }).toList.map (·.val) = (en.toList.map (·.val)).set i (a.eval ox) := by
              apply List.ext_getElem?
              intro j
              simp only [Array.toList_modify, List.getElem?_map, List.getElem?_modify, List.getElem?_set, List.length_map]
              by_cases hj : i = j
              · subst hj
                have hil := (Array.getElem?_eq_some_iff.1 hei).1
                have he2 : en.toList[i]? = some e := by simpa using hei
                simp [hil]
              · simp [hj]
            rw [e1, show (es.set i (dk, dx)).map (·.2) = (es.map (·.2)).set i dx by rw [List.map_set]]
            exact h2.set i hRx
        · rename_i hfd
          cases hes'
          obtain ⟨g1, _⟩ := findD_sound hF hRk hfd h1 h2
          have hfk : (Instr.findKey kt (a.eval ok) en.toList).run P w = .ok none w := by
            simp only [Instr.findKey, Sem.run_bind, run_underlying hkd, Result.andThen_ok, g1 rfl, Sem.run_pure]
          refine fin (en.push { key := a.eval ok, val := a.eval ox, born := clk }) (clk + 1) ?_ ?_ ?_ (by simp [hcl]) (by simp [hbn, hcl, List.range_succ])
          · rw [hvm]
            simp only [Instr.mapUpdate, Sem.run_bind, run_underlying hty, Result.andThen_ok, hgo, hck, hfk, hset]
          · simp only [Array.toList_push, List.map_append, List.map_cons, List.map_nil]
            exact h1.append (by simp only [DV.RL]; exact ⟨_, _, rfl, hRk, rfl⟩)
          · simp only [Array.toList_push, List.map_append, List.map_cons, List.map_nil]
            exact h2.append (by simp only [DV.RL]; exact ⟨_, _, rfl, hRx, rfl⟩)
        · cases hes'
      · cases hd
    · cases hd
  · cases hd

theorem memM_sound {m : Emb} {ρ : Env} (hF : F.ok ρ) {h : T Blk} {n : Nat} {t : T DV} {a : Act} {w : World} (hH : HeapR m ρ h w) (ht : TmpR m ρ t a) (hf : ∀ id, n ≤ id → m.ι id = none) {o : Oper} {r : Out}
    (hd : memM P F h n t o.op = some r) : OpOk m ρ h w ((execOp a.eval o).run P w) r := by
  obtain ⟨dst, op, type, pos, after, guard⟩ := o
  simp only at hd
  cases op <;> simp only [memM, reduceCtorEq] at hd
  case makeMap ty res =>
    have mk : ∀ {run : Result Next}, run = .ok (.value (.map (some w.heap.size))) (w.alloc (.map #[] 0)) → OpOk m ρ h w run ⟨.mp n, h.set n (.mpb []), n + 1⟩ := fun {run} hr =>
      new_ok (k := 0) hH hf (B := .mpb []) (o := .map #[] 0) ⟨#[], 0, rfl, by simp [DV.RL], by simp [DV.RL], rfl, rfl⟩ (d := .mp n) (v := .map (some w.heap.size)) (by simp only [DV.R]; exact ⟨w.heap.size, by simp [Emb.put], rfl⟩) hr
    split at hd
    · cases hd
      exact mk (by simp only [execOp]; exact run_v (by simp [Instr.makeMap]))
    · rename_i x
      split at hd
      · rename_i kt et k e hu hx
        cases hd
        have hR := opd_R ht hx
        simp only [DV.R] at hR
        exact mk (by simp only [execOp]; exact run_v (by simp [Instr.makeMap, run_underlying hu, hR, asInt, asIntOf]))
      · cases hd
  case mapUpdate ty m' k x =>
    obtain ⟨w', hrun, e1, e2, hH', hT⟩ := updM_sound hF hH ht hf hd
    refine ⟨.skip, undef, w', m, ?_, .inr ⟨rfl, rfl⟩, by rw [e1]; simp [DV.R, DV.RL, undef], hH', hT, by rw [e2]; exact hf⟩
    simp only [execOp, Sem.run_bind, hrun, Result.andThen_ok, Sem.run_pure]
  case insert ty m' k x =>
    obtain ⟨w', hrun, e1, e2, hH', hT⟩ := updM_sound hF hH ht hf hd
    refine ⟨.skip, undef, w', m, ?_, .inr ⟨rfl, rfl⟩, by rw [e1]; simp [DV.R, DV.RL, undef], hH', hT, by rw [e2]; exact hf⟩
    simp only [execOp, Sem.run_bind, hrun, Result.andThen_ok, Sem.run_pure]
  all_goals simp at hd

theorem valAC_sound {m : Emb} {ρ : Env} (hF : F.ok ρ) {h : T Blk} {t : T DV} {a : Act} {w : World} (hH : HeapR m ρ h w) (ht : TmpR m ρ t a) {o : Oper} {d : DV} (hd : valAC P F h t o.op = some d) :
    ∃ v, (execOp a.eval o).run P w = .ok (.value v) w ∧ d.R m ρ v := by
  unfold valAC at hd
  split at hd
  · rename_i d' h'; cases hd; exact valAB_sound hF hH ht h'
  · exact valC_sound hF hH ht hd

theorem memAM_sound {m : Emb} {ρ : Env} (hF : F.ok ρ) {h : T Blk} {n : Nat} {t : T DV} {a : Act} {w : World} (hH : HeapR m ρ h w) (ht : TmpR m ρ t a) (hf : ∀ id, n ≤ id → m.ι id = none) {o : Oper} {r : Out}
    (hd : memAM P F h n t o.op = some r) : OpOk m ρ h w ((execOp a.eval o).run P w) r := by
  unfold memAM at hd
  split at hd
  · rename_i r' h'; cases hd; exact memABC_sound hF hH ht hf h'
  · exact memM_sound hF hH ht hf hd
end
end Go.Eng

/-
  Maps whose keys are structs of numbers, bools and strings.
-/
namespace Go.Eng

section
variable (P : Program) (F : Facts)

def plainT (t : TypeId) : Bool := match P.underlying t with
  | some kd => plainKey kd
  | none => false

def structKey (kt : TypeId) (x : DV) : Bool := match P.underlying kt, x with
  | some (.struct fs), .agg l => fs.toList.all fun f => (partD P f.type l f.offset).isSome && plainT P f.type
  | _, _ => false

def findS (kt : TypeId) (x : DV) : List (DV × DV) → Nat → Option (Option (Nat × DV))
  | [], _ => some none
  | (k, v) :: r, i => match eqD P F 100 kt x k with
    | some e => match e.dec F with
      | some true => some (some (i, v))
      | some false => findS kt x r (i + 1)
      | none => none
    | none => none

def valE (h : T Blk) (t : T DV) : Op → Option DV
  | .lookup ty x ix ok => match P.underlying ty, opd t x, opd t ix with
    | some (.map kt et), some d, some k => match entriesD h d with
      | some es => if structKey P kt k then (match findS P F kt k es 0 with
        | some (some (_, v)) => some (if ok then .tup [v, .bool (.lb true)] else v)
        | some none => (zeroD P et).map fun z => if ok then .tup [z, .bool (.lb false)] else z
        | none => none) else none
      | none => none
    | _, _, _ => none
  | _ => none

def updS (h : T Blk) (n : Nat) (t : T DV) (ty : TypeId) (m k x : Operand) : Option Out :=
  match P.underlying ty, opd t m, opd t k, opd t x with
  | some (.map kt _), some (.mp id), some dk, some dx => match h.get id with
    | some (.mpb es) => if structKey P kt dk then (match findS P F kt dk es 0 with
      | some none => some ⟨.tup [], h.set id (.mpb (es ++ [(dk, dx)])), n⟩
      | _ => none) else none
    | _ => none
  | _, _, _, _ => none

/-- An entry that is there, or is laid. -/
def entM (h : T Blk) (n : Nat) (t : T DV) (ty : TypeId) (m k : Operand) : Option Out :=
  match P.underlying ty, opd t m, opd t k with
  | some (.map kt et), some (.mp id), some dk => match h.get id, zeroD P et with
    | some (.mpb es), some z => if structKey P kt dk then (match findS P F kt dk es 0 with
      | some none => some ⟨.tup [z, .int .i64 (.li es.length)], h.set id (.mpb (es ++ [(dk, z)])), n⟩
      | _ => none) else none
    | _, _ => none
  | _, _, _ => none

def entSt (h : T Blk) (n : Nat) (t : T DV) (m s x : Operand) : Option Out :=
  match opd t m, opd t s, opd t x with
  | some (.mp id), some (.int _ (.li i)), some dx => match h.get id with
    | some (.mpb es) => match es[i.toNat]? with
      | some p => if 0 ≤ i then some ⟨.tup [], h.set id (.mpb (es.set i.toNat (p.1, dx))), n⟩ else none
      | none => none
    | _ => none
  | _, _, _ => none

def memE (h : T Blk) (n : Nat) (t : T DV) : Op → Option Out
  | .mapEntry ty m k => entM P F h n t ty m k
  | .entryStore _ m s x => entSt h n t m s x
  | .mapUpdate ty m k x => updS P F h n t ty m k x
  | .insert ty m k x => updS P F h n t ty m k x
  | _ => none

def valDE (h : T Blk) (t : T DV) (op : Op) : Option DV := match valAC P F h t op with
  | some d => some d
  | none => valE P F h t op

def memDE (h : T Blk) (n : Nat) (t : T DV) (op : Op) : Option Out := match memAM P F h n t op with
  | some r => some r
  | none => memE P F h n t op

variable {P} {F}

theorem run_forIn_skip {α : Type} {w : World} (body : α → PUnit → Sem (ForInStep PUnit)) : ∀ (l : List α), (∀ a ∈ l, (body a ⟨⟩).run P w = .ok (.yield ⟨⟩) w) → (forIn l PUnit.unit body : Sem PUnit).run P w = .ok ⟨⟩ w
  | [], _ => by simp [Sem.run_pure]
  | a :: l, h => by
    simp only [List.forIn_cons, Sem.run_bind, h a (List.mem_cons_self ..), Result.andThen_ok]
    exact run_forIn_skip body l fun b hb => h b (List.mem_cons_of_mem _ hb)

theorem checkStruct_run {kt : TypeId} {fs : Array Field} (hk : P.underlying kt = some (.struct fs)) {m : Emb} {ρ : Env} {l : List DV} {cs : Array Value} (hl : DV.RL m ρ l cs.toList)
    (hf : ∀ f ∈ fs.toList, (partD P f.type l f.offset).isSome = true ∧ ∃ kd, P.underlying f.type = some kd ∧ plainKey kd = true) (b : Bool) (w : World) : (Instr.checkKey b 10000 kt (.agg cs)).run P w = .ok () w := by
  have hstep : ∀ f ∈ fs.toList, ∃ v kd, (part f.type cs f.offset).run P w = .ok v w ∧ P.underlying f.type = some kd ∧ plainKey kd = true := fun f hm => by
    obtain ⟨h1, kd, h2, h3⟩ := hf f hm
    obtain ⟨d, hd⟩ := Option.isSome_iff_exists.1 h1
    obtain ⟨v, hv, _⟩ := partD_sound (P := P) (w := w) hd hl
    exact ⟨v, kd, hv, h2, h3⟩
  unfold Instr.checkKey
  simp only [Sem.run_bind, run_underlying hk, Result.andThen_ok]
  rw [← Array.forIn_toList]
  have := run_forIn_skip (P := P) (w := w) (fun f _ => if f.name ≠ "_" then (do
        let x ← part f.type cs f.offset
        Instr.checkKey b 9999 f.type x
        pure (.yield PUnit.unit)) else pure (.yield PUnit.unit)) fs.toList (fun f hm => by
    obtain ⟨v, kd, h1, h2, h3⟩ := hstep f hm
    have hc : (Instr.checkKey b 9999 f.type v).run P w = .ok () w := by
      unfold Instr.checkKey
      simp only [Sem.run_bind, run_underlying h2, Result.andThen_ok]
      cases kd <;> simp [plainKey] at h3 <;> cases v <;> rfl
    by_cases hn : f.name = "_"
    · simp [hn, Sem.run_pure]
    · simp [hn, h1, hc])
  rw [this]
  simp only [Result.andThen_ok, Sem.run_pure]

theorem structKey_run {kt : TypeId} {x : DV} (h : structKey P kt x = true) {m : Emb} {ρ : Env} {vx : Value} (hx : x.R m ρ vx) (b : Bool) (w : World) : (∃ fs, P.underlying kt = some (.struct fs)) ∧ (Instr.checkKey b 10000 kt vx).run P w = .ok () w := by
  unfold structKey at h
  split at h
  · rename_i fs l hk
    simp only [DV.R] at hx
    obtain ⟨cs, rfl, hl⟩ := hx
    refine ⟨⟨fs, hk⟩, checkStruct_run hk hl (fun f hf => ?_) b w⟩
    have := (List.all_eq_true.1 h) f hf
    simp only [Bool.and_eq_true] at this
    refine ⟨this.1, ?_⟩
    have h2 := this.2
    unfold plainT at h2
    split at h2
    · rename_i kd hkd; exact ⟨kd, hkd, h2⟩
    · cases h2
  · cases h

theorem findS_sound {m : Emb} {ρ : Env} (hF : F.ok ρ) {kt : TypeId} {x : DV} {vx : Value} (hx : x.R m ρ vx) (w : World) : ∀ {es : List (DV × DV)} {en : List MapEntry} {i : Nat} {r : Option (Nat × DV)}, findS P F kt x es i = some r →
    DV.RL m ρ (es.map (·.1)) (en.map (·.key)) → DV.RL m ρ (es.map (·.2)) (en.map (·.val)) →
    (r = none → (Instr.findAsking kt vx en i).run P w = .ok none w) ∧ (∀ j d, r = some (j, d) → ∃ v, (Instr.findAsking kt vx en i).run P w = .ok (some (j, v)) w ∧ d.R m ρ v)
  | [], en, i, r, h, h1, h2 => by
    simp only [findS] at h
    cases h
    simp only [List.map_nil, DV.RL, List.map_eq_nil_iff] at h1
    subst h1
    exact ⟨fun _ => by simp [Instr.findAsking, Sem.run_pure], fun j d hc => by cases hc⟩
  | (k, v) :: es, en, i, r, h, h1, h2 => by
    simp only [List.map_cons, DV.RL] at h1 h2
    obtain ⟨uk, ur, he, hk, hkr⟩ := h1
    match en, he with
    | e :: en, he =>
      simp only [List.map_cons, List.cons.injEq] at he
      obtain ⟨rfl, rfl⟩ := he
      obtain ⟨uv, uvr, he2, hv, hvr⟩ := h2
      simp only [List.map_cons, List.cons.injEq] at he2
      obtain ⟨rfl, rfl⟩ := he2
      simp only [findS] at h
      split at h
      · rename_i eq heq
        have hq := eqOp_run (P := P) hF heq hx hk w
        split at h
        · rename_i hd
          cases h
          rw [E.dec_sound hF hd] at hq
          refine ⟨(fun hc => by cases hc), fun j d hc => ?_⟩
          cases hc
          exact ⟨e.val, by simp [Instr.findAsking, hq, Sem.run_pure], hv⟩
        · rename_i hd
          rw [E.dec_sound hF hd] at hq
          obtain ⟨g1, g2⟩ := findS_sound hF hx w h hkr hvr
          refine ⟨fun hc => by simp [Instr.findAsking, hq, g1 hc], fun j d hc => ?_⟩
          obtain ⟨v', f1, f2⟩ := g2 j d hc
          exact ⟨v', by simp [Instr.findAsking, hq, f1], f2⟩
        · cases h
      · cases h

theorem findKey_struct {kt : TypeId} {fs : Array Field} (hk : P.underlying kt = some (.struct fs)) {vx : Value} {en : List MapEntry} {r : Option (Nat × Value)} {w : World} (h : (Instr.findAsking kt vx en).run P w = .ok r w) : (Instr.findKey kt vx en).run P w = .ok r w := by
  simp only [Instr.findKey, Sem.run_bind, run_underlying hk, Result.andThen_ok]
  cases en with
  | nil =>
    simp only [Instr.findNow]
    exact h
  | cons e en =>
    simp only [Instr.findNow, Instr.sameNow]
    exact h

theorem valE_sound {m : Emb} {ρ : Env} (hF : F.ok ρ) {h : T Blk} {t : T DV} {a : Act} {w : World} (hH : HeapR m ρ h w) (ht : TmpR m ρ t a) {o : Oper} {d : DV} (hd : valE P F h t o.op = some d) :
    ∃ v, (execOp a.eval o).run P w = .ok (.value v) w ∧ d.R m ρ v := by
  obtain ⟨dst, op, type, pos, after, guard⟩ := o
  simp only at hd
  cases op <;> simp only [valE, reduceCtorEq] at hd
  case lookup ty x ix ok =>
    split at hd
    · rename_i kt et dm dk hty hm hk
      split at hd
      · rename_i es hes
        split at hd
        · rename_i hsk
          have hx := opd_R ht hk
          obtain ⟨en, h1, h2, hv⟩ := entriesD_sound hH hes (opd_R ht hm)
          obtain ⟨⟨fs, hfs⟩, hck⟩ := structKey_run hsk hx en.isEmpty w
          have key : ∀ {r' : Option (Nat × Value)}, (Instr.findAsking kt (a.eval ix) en.toList).run P w = .ok r' w → ∀ {v : Value} {b : Bool}, ((∃ i, r' = some (i, v) ∧ b = true) ∨ (r' = none ∧ b = false ∧ (zeroValue et).run P w = .ok v w)) →
              (Instr.lookup ty (a.eval x) (a.eval ix) ok).run P w = .ok (if ok then .tuple #[v, .bool b] else v) w := by
            intro r' hr v b hz
            have hfk := findKey_struct hfs hr
            rcases hv with ⟨hvm, rfl⟩ | ⟨bb, clk, hvm, ho⟩
            · rw [hvm]
              rcases hz with ⟨i, rfl, rfl⟩ | ⟨rfl, rfl, hz⟩
              · simp only [Instr.lookup, Sem.run_bind, run_underlying hty, Result.andThen_ok, Sem.run_pure, hck, hfk]
              · simp only [Instr.lookup, Sem.run_bind, run_underlying hty, Result.andThen_ok, Sem.run_pure, hck, hfk, hz]
            · rw [hvm]
              have hgo : (getObj bb).run P w = .ok (.map en clk) w := by simp [getObj, Sem.run, ho]
              rcases hz with ⟨i, rfl, rfl⟩ | ⟨rfl, rfl, hz⟩
              · simp only [Instr.lookup, Sem.run_bind, run_underlying hty, Result.andThen_ok, hgo, Sem.run_pure, hck, hfk]
              · simp only [Instr.lookup, Sem.run_bind, run_underlying hty, Result.andThen_ok, hgo, Sem.run_pure, hck, hfk, hz]
          have fin : ∀ {dv : DV} {v : Value} {b : Bool}, dv.R m ρ v → (if ok then DV.tup [dv, .bool (.lb b)] else dv).R m ρ (if ok then .tuple #[v, .bool b] else v) := by
            intro dv v b hr
            cases ok with
            | true => simp only [if_true, DV.R, DV.RL]; exact ⟨_, rfl, v, _, rfl, hr, _, _, rfl, rfl, rfl⟩
            | false => simpa using hr
          split at hd
          · rename_i i v hf
            cases hd
            obtain ⟨_, g2⟩ := findS_sound hF hx w hf h1 h2
            obtain ⟨v', f1, f2⟩ := g2 i v rfl
            exact ⟨_, run_v (key f1 (.inl ⟨i, rfl, rfl⟩)), fin f2⟩
          · rename_i hf
            simp only [Option.map_eq_some_iff] at hd
            obtain ⟨z, hz, rfl⟩ := hd
            obtain ⟨g1, _⟩ := findS_sound hF hx w hf h1 h2
            obtain ⟨i, zv, hi, hzv, hr⟩ := zeroD_R hz m ρ
            exact ⟨_, run_v (key (g1 rfl) (.inr ⟨rfl, rfl, by simp [zeroValue, typeInfo, hi, hzv]⟩)), fin hr⟩
          · cases hd
        · cases hd
      · cases hd
    · cases hd
  all_goals simp at hd

theorem updS_sound {m : Emb} {ρ : Env} (hF : F.ok ρ) {h : T Blk} {n : Nat} {t : T DV} {a : Act} {w : World} (hH : HeapR m ρ h w) (ht : TmpR m ρ t a) {ty : TypeId} {om ok ox : Operand} {r : Out} (hd : updS P F h n t ty om ok ox = some r) :
    ∃ w', (Instr.mapUpdate ty (a.eval om) (a.eval ok) (a.eval ox)).run P w = .ok () w' ∧ r.d = .tup [] ∧ r.n = n ∧ HeapR m ρ r.h w' ∧ Trans m h w m r.h w' := by
  unfold updS at hd
  split at hd
  · rename_i kt et id dk dx hty hm hk hx
    split at hd
    · rename_i es hg
      split at hd
      · rename_i hsk
        split at hd
        · rename_i hfd
          cases hd
          obtain ⟨b, ob, hb, ho, en, clk, rfl, h1, h2, hcl, hbn⟩ := hH.blk id _ hg rfl
          have hRm := opd_R ht hm
          simp only [DV.R] at hRm
          obtain ⟨b', hb', hvm⟩ := hRm
          rw [hb] at hb'; cases hb'
          have hRk := opd_R ht hk
          have hRx := opd_R ht hx
          have hgo : (getObj b).run P w = .ok (.map en clk) w := by simp [getObj, Sem.run, ho]
          obtain ⟨⟨fs, hfs⟩, hck⟩ := structKey_run hsk hRk false w
          have hlt := (Array.getElem?_eq_some_iff.1 ho).1
          have hset : ∀ en' clk', (setObj b (.map en' clk')).run P w = .ok () { w with heap := w.heap.setIfInBounds b (.map en' clk') } := fun en' clk' => by simp [setObj, Sem.run, ho]
          obtain ⟨g1, _⟩ := findS_sound hF hRk w hfd h1 h2
          have hfk := findKey_struct hfs (g1 rfl)
          have hoth : ∀ c, c ≠ b → ({ w with heap := w.heap.setIfInBounds b (.map (en.push { key := a.eval ok, val := a.eval ox, born := clk }) (clk + 1)) } : World).heap[c]? = w.heap[c]? := fun c hc => by
            simp only [Array.getElem?_setIfInBounds]
            rw [if_neg (fun e => hc e.symm)]
          refine ⟨{ w with heap := w.heap.setIfInBounds b (.map (en.push { key := a.eval ok, val := a.eval ox, born := clk }) (clk + 1)) }, ?_, rfl, rfl, ?_, ?_⟩
          · rw [hvm]
            simp only [Instr.mapUpdate, Sem.run_bind, run_underlying hty, Result.andThen_ok, hgo, hck, hfk, hset]
          · refine hH.write (o := .map (en.push { key := a.eval ok, val := a.eval ox, born := clk }) (clk + 1)) hg rfl hb ?_ ⟨_, _, rfl, ?_, ?_, by simp [hcl], by simp [hbn, hcl, List.range_succ]⟩ rfl hoth
            · simp only [Array.getElem?_setIfInBounds, if_true]
              rw [if_pos hlt]
            · simp only [Array.toList_push, List.map_append, List.map_cons, List.map_nil]
              exact h1.append (by simp only [DV.RL]; exact ⟨_, _, rfl, hRk, rfl⟩)
            · simp only [Array.toList_push, List.map_append, List.map_cons, List.map_nil]
              exact h2.append (by simp only [DV.RL]; exact ⟨_, _, rfl, hRx, rfl⟩)
          · exact Trans.write hg rfl hb hoth (by simp) rfl rfl rfl
        · cases hd
      · cases hd
    · cases hd
  · cases hd

theorem entM_sound {m : Emb} {ρ : Env} (hF : F.ok ρ) {h : T Blk} {n : Nat} {t : T DV} {a : Act} {w : World} (hH : HeapR m ρ h w) (ht : TmpR m ρ t a) {ty : TypeId} {om ok : Operand} {r : Out} (hd : entM P F h n t ty om ok = some r) :
    ∃ v w', (Instr.mapEntry ty (a.eval om) (a.eval ok)).run P w = .ok v w' ∧ r.d.R m ρ v ∧ r.n = n ∧ HeapR m ρ r.h w' ∧ Trans m h w m r.h w' := by
  unfold entM at hd
  split at hd
  · rename_i kt et id dk hty hm hk
    split at hd
    · rename_i es z hg hz
      split at hd
      · rename_i hsk
        split at hd
        · rename_i hfd
          cases hd
          obtain ⟨b, ob, hb, ho, en, clk, rfl, h1, h2, hcl, hbn⟩ := hH.blk id _ hg rfl
          have hRm := opd_R ht hm
          simp only [DV.R] at hRm
          obtain ⟨b', hb', hvm⟩ := hRm
          rw [hb] at hb'; cases hb'
          have hRk := opd_R ht hk
          obtain ⟨iz, zv, hiz, hzv, hzr⟩ := zeroD_R hz m ρ
          have hgo : (getObj b).run P w = .ok (.map en clk) w := by simp [getObj, Sem.run, ho]
          obtain ⟨⟨fs, hfs⟩, hck⟩ := structKey_run hsk hRk false w
          have hlt := (Array.getElem?_eq_some_iff.1 ho).1
          have hset : ∀ en' clk', (setObj b (.map en' clk')).run P w = .ok () { w with heap := w.heap.setIfInBounds b (.map en' clk') } := fun en' clk' => by simp [setObj, Sem.run, ho]
          have hzero : (zeroValue et).run P w = .ok zv w := by simp [zeroValue, typeInfo, hiz, hzv]
          obtain ⟨g1, _⟩ := findS_sound hF hRk w hfd h1 h2
          have hfk := findKey_struct hfs (g1 rfl)
          have hoth : ∀ c, c ≠ b → ({ w with heap := w.heap.setIfInBounds b (.map (en.push { key := a.eval ok, val := zv, born := clk }) (clk + 1)) } : World).heap[c]? = w.heap[c]? := fun c hc => by
            simp only [Array.getElem?_setIfInBounds]
            rw [if_neg (fun e => hc e.symm)]
          have hl := h1.length
          simp only [List.length_map, Array.length_toList] at hl
          refine ⟨.tuple #[zv, goInt clk], { w with heap := w.heap.setIfInBounds b (.map (en.push { key := a.eval ok, val := zv, born := clk }) (clk + 1)) }, ?_, ?_, rfl, ?_, ?_⟩
          · rw [hvm]
            simp only [Instr.mapEntry, Sem.run_bind, run_underlying hty, Result.andThen_ok, hgo, hck, hfk, hzero, hset, Sem.run_pure]
          · simp only [DV.R, DV.RL]
            exact ⟨_, rfl, zv, _, rfl, hzr, _, _, rfl, by simp only [goInt, E.ev, Sc.int_I]; rw [hcl, hl], rfl⟩
          · refine hH.write (o := .map (en.push { key := a.eval ok, val := zv, born := clk }) (clk + 1)) hg rfl hb ?_ ⟨_, _, rfl, ?_, ?_, by simp [hcl], by simp [hbn, hcl, List.range_succ]⟩ rfl hoth
            · simp only [Array.getElem?_setIfInBounds, if_true]
              rw [if_pos hlt]
            · simp only [Array.toList_push, List.map_append, List.map_cons, List.map_nil]
              exact h1.append (by simp only [DV.RL]; exact ⟨_, _, rfl, hRk, rfl⟩)
            · simp only [Array.toList_push, List.map_append, List.map_cons, List.map_nil]
              exact h2.append (by simp only [DV.RL]; exact ⟨_, _, rfl, hzr, rfl⟩)
          · exact Trans.write hg rfl hb hoth (by simp) rfl rfl rfl
        · cases hd
      · cases hd
    · cases hd
  · cases hd

theorem findIdx_born : ∀ {l : List MapEntry} {k i : Nat}, l.map (·.born) = List.range' k l.length → i < l.length → l.findIdx? (fun e => (e.born : Int) == ((k + i : Nat) : Int)) = some i
  | [], k, i, _, h => by simp at h
  | e :: l, k, i, hb, h => by
    simp only [List.map_cons, List.length_cons, List.range'_succ, List.cons.injEq] at hb
    rw [List.findIdx?_cons]
    cases i with
    | zero => simp [hb.1]
    | succ i =>
      have hne : ((e.born : Int) == ((k + (i + 1) : Nat) : Int)) = false := by rw [hb.1]; simp; omega
      rw [hne]
      have := findIdx_born (l := l) (k := k + 1) (i := i) hb.2 (by simpa using h)
      simp only [Bool.false_eq_true, if_false]
      rw [show (k + (i + 1) : Nat) = k + 1 + i by omega, this]
      rfl

theorem entSt_sound {m : Emb} {ρ : Env} {h : T Blk} {n : Nat} {t : T DV} {a : Act} {w : World} (hH : HeapR m ρ h w) (ht : TmpR m ρ t a) {ty : TypeId} {om os ox : Operand} {r : Out} (hd : entSt h n t om os ox = some r) :
    ∃ w', (Instr.entryStore ty (a.eval om) (a.eval os) (a.eval ox)).run P w = .ok () w' ∧ r.d = .tup [] ∧ r.n = n ∧ HeapR m ρ r.h w' ∧ Trans m h w m r.h w' := by
  unfold entSt at hd
  split at hd
  · rename_i id k i dx hm hs hx
    split at hd
    · rename_i es hg
      split at hd
      · rename_i p hp
        split at hd
        · rename_i h0
          cases hd
          obtain ⟨b, ob, hb, ho, en, clk, rfl, h1, h2, hcl, hbn⟩ := hH.blk id _ hg rfl
          have hRm := opd_R ht hm
          simp only [DV.R] at hRm
          obtain ⟨b', hb', hvm⟩ := hRm
          rw [hb] at hb'; cases hb'
          have hRs := opd_R ht hs
          simp only [DV.R, E.ev, Sc.int_I] at hRs
          have hRx := opd_R ht hx
          have hgo : (getObj b).run P w = .ok (.map en clk) w := by simp [getObj, Sem.run, ho]
          have hlt := (Array.getElem?_eq_some_iff.1 ho).1
          have hl := h1.length
          simp only [List.length_map, Array.length_toList] at hl
          have hil : i.toNat < en.size := by
            have := (List.getElem?_eq_some_iff.1 hp).1
            omega
          have hidx : en.findIdx? (fun e => (e.born : Int) == i) = some i.toNat := by
            have := findIdx_born (l := en.toList) (k := 0) (i := i.toNat) (by rw [hbn, List.range_eq_range', Array.length_toList]) (by simpa using hil)
            rw [Nat.zero_add, Int.toNat_of_nonneg h0] at this
            rw [← this]
            obtain ⟨l⟩ := en
            simp
          have hset : ∀ en' clk', (setObj b (.map en' clk')).run P w = .ok () { w with heap := w.heap.setIfInBounds b (.map en' clk') } := fun en' clk' => by simp [setObj, Sem.run, ho]
          have hoth : ∀ c, c ≠ b → ({ w with heap := w.heap.setIfInBounds b (.map (en.modify i.toNat fun e => { e with val := a.eval ox }) clk) } : World).heap[c]? = w.heap[c]? := fun c hc => by
            simp only [Array.getElem?_setIfInBounds]
            rw [if_neg (fun e => hc e.symm)]
          have gen : ∀ {β : Type} (f : MapEntry → β), (∀ e, f { e with val := a.eval ox } = f e) → (en.modify i.toNat fun e => { e with val := a.eval ox }).toList.map f = en.toList.map f := by
            intro β f hf
            apply List.ext_getElem?
            intro j
            simp only [Array.toList_modify, List.getElem?_map, List.getElem?_modify]
            by_cases hj : i.toNat = j
            · subst hj; cases en.toList[i.toNat]? <;> simp [hf]
            · simp [hj]
          refine ⟨{ w with heap := w.heap.setIfInBounds b (.map (en.modify i.toNat fun e => { e with val := a.eval ox }) clk) }, ?_, rfl, rfl, ?_, ?_⟩
          · rw [hvm, hRs]
            simp only [Instr.entryStore, Sem.run_bind, Result.andThen_ok, hgo, asInt, Sem.run_pure, asIntOf, hidx, hset]
          · refine hH.write (o := .map (en.modify i.toNat fun e => { e with val := a.eval ox }) clk) hg rfl hb ?_ ⟨_, _, rfl, ?_, ?_, by simpa using hcl, by rw [gen (·.born) (fun _ => rfl), Array.size_modify]; exact hbn⟩ rfl hoth
            · simp only [Array.getElem?_setIfInBounds, if_true]
              rw [if_pos hlt]
            · rw [gen (·.key) (fun _ => rfl), show (es.set i.toNat (p.1, dx)).map (·.1) = es.map (·.1) by
                rw [List.map_set]
                apply List.ext_getElem?
                intro j
                rw [List.getElem?_set]
                by_cases hj : i.toNat = j
                · subst hj
                  have hlt2 := (List.getElem?_eq_some_iff.1 hp).1
                  have he := (List.getElem?_eq_some_iff.1 hp).2
                  simp [hlt2, he]
                · simp [hj]]
              exact h1
            · have e1 : (en.modify i.toNat fun e => { e with val := a.eval ox }).toList.map (·.val) = (en.toList.map (·.val)).set i.toNat (a.eval ox) := by
                apply List.ext_getElem?
                intro j
                simp only [Array.toList_modify, List.getElem?_map, List.getElem?_modify, List.getElem?_set, List.length_map]
                by_cases hj : i.toNat = j
                · subst hj
                  have he2 : en.toList[i.toNat]? = some en[i.toNat] := by simp [hil]
                  simp [hil]
                · simp [hj]
              rw [e1, List.map_set]
              exact h2.set i.toNat hRx
          · exact Trans.write hg rfl hb hoth (by simp) rfl rfl rfl
        · cases hd
      · cases hd
    · cases hd
  · cases hd

theorem memE_sound {m : Emb} {ρ : Env} (hF : F.ok ρ) {h : T Blk} {n : Nat} {t : T DV} {a : Act} {w : World} (hH : HeapR m ρ h w) (ht : TmpR m ρ t a) (hf : ∀ id, n ≤ id → m.ι id = none) {o : Oper} {r : Out}
    (hd : memE P F h n t o.op = some r) : OpOk m ρ h w ((execOp a.eval o).run P w) r := by
  obtain ⟨dst, op, type, pos, after, guard⟩ := o
  simp only at hd
  cases op <;> simp only [memE, reduceCtorEq] at hd
  case mapEntry ty m' k =>
    obtain ⟨v, w', hrun, hr, e2, hH', hT⟩ := entM_sound hF hH ht hd
    exact ⟨_, v, w', m, run_v hrun, .inl rfl, hr, hH', hT, by rw [e2]; exact hf⟩
  case entryStore ty m' s x =>
    obtain ⟨w', hrun, e1, e2, hH', hT⟩ := entSt_sound (P := P) (ty := ty) hH ht hd
    refine ⟨.skip, undef, w', m, ?_, .inr ⟨rfl, rfl⟩, by rw [e1]; simp [DV.R, DV.RL, undef], hH', hT, by rw [e2]; exact hf⟩
    simp only [execOp, Sem.run_bind, hrun, Result.andThen_ok, Sem.run_pure]
  case mapUpdate ty m' k x =>
    obtain ⟨w', hrun, e1, e2, hH', hT⟩ := updS_sound hF hH ht hd
    refine ⟨.skip, undef, w', m, ?_, .inr ⟨rfl, rfl⟩, by rw [e1]; simp [DV.R, DV.RL, undef], hH', hT, by rw [e2]; exact hf⟩
    simp only [execOp, Sem.run_bind, hrun, Result.andThen_ok, Sem.run_pure]
  case insert ty m' k x =>
    obtain ⟨w', hrun, e1, e2, hH', hT⟩ := updS_sound hF hH ht hd
    refine ⟨.skip, undef, w', m, ?_, .inr ⟨rfl, rfl⟩, by rw [e1]; simp [DV.R, DV.RL, undef], hH', hT, by rw [e2]; exact hf⟩
    simp only [execOp, Sem.run_bind, hrun, Result.andThen_ok, Sem.run_pure]
  all_goals simp at hd

theorem valDE_sound {m : Emb} {ρ : Env} (hF : F.ok ρ) {h : T Blk} {t : T DV} {a : Act} {w : World} (hH : HeapR m ρ h w) (ht : TmpR m ρ t a) {o : Oper} {d : DV} (hd : valDE P F h t o.op = some d) :
    ∃ v, (execOp a.eval o).run P w = .ok (.value v) w ∧ d.R m ρ v := by
  unfold valDE at hd
  split at hd
  · rename_i d' h'; cases hd; exact valAC_sound hF hH ht h'
  · exact valE_sound hF hH ht hd

theorem memDE_sound {m : Emb} {ρ : Env} (hF : F.ok ρ) {h : T Blk} {n : Nat} {t : T DV} {a : Act} {w : World} (hH : HeapR m ρ h w) (ht : TmpR m ρ t a) (hf : ∀ id, n ≤ id → m.ι id = none) {o : Oper} {r : Out}
    (hd : memDE P F h n t o.op = some r) : OpOk m ρ h w ((execOp a.eval o).run P w) r := by
  unfold memDE at hd
  split at hd
  · rename_i r' h'; cases hd; exact memAM_sound hF hH ht hf h'
  · exact memE_sound hF hH ht hf hd
end
end Go.Eng

/-
  Loops over maps: the iterator, its entry; the step, whichever entry it hands out.
-/
namespace Go.Eng

section
variable (P : Program) (F : Facts)

/-- The iterator, its map's entries, which of them have been handed out, and the last one. -/
def iterD (h : T Blk) (t : T DV) (it : Operand) : Option (Nat × Nat × List E × Option Nat × List (DV × DV)) :=
  match opd t it with
  | some (.ptr id ⟨0, []⟩) => match h.get id with
    | some (.itb mp seen last) => match h.get mp with
      | some (.mpb es) => if es.length = seen.length then some (id, mp, seen, last, es) else none
      | _ => none
    | _ => none
  | _ => none

/-- The failing of a type assertion that asks whether it holds. -/
def failD (asserted : TypeId) (ok : Bool) : Option DV := if ok then (zeroD P asserted).map fun z => .tup [z, .bool (.lb false)] else none
def holdD (d : DV) (ok : Bool) : DV := if ok then .tup [d, .bool (.lb true)] else d

/-- Type assertions. -/
def assertD (asserted : TypeId) (ok : Bool) : DV → Option DV
  | .nili => (P.underlying asserted).bind fun _ => failD P asserted ok
  | .ifc ty d => match P.underlying asserted with
    | some (.interface want) => (match P.info? ty with
      | some i => (match Instr.missingMethod want i.methods with
        | none => some (holdD (.ifc ty d) ok)
        | some _ => failD P asserted ok)
      | none => none)
    | some _ => if ty = asserted then some (holdD d ok) else failD P asserted ok
    | none => none
  | _ => none

def valF (h : T Blk) (t : T DV) : Op → Option DV
  | .typeAssert x _ asserted ok => (opd t x).bind (assertD P asserted ok)
  | .entry it => match iterD h t it with
    | some (_, _, _, some i, es) => match es[i]? with
      | some (k, v) => some (.tup [k, v])
      | none => none
    | _ => none
  | _ => none

def memF (h : T Blk) (n : Nat) (t : T DV) : Op → Option Out
  | .range ty x => match P.underlying ty, opd t x with
    | some (.map _ _), some (.mp id) => match h.get id with
      | some (.mpb es) => some ⟨.ptr n ⟨0, []⟩, h.set n (.itb id (List.replicate es.length (.lb false)) none), n + 1⟩
      | _ => none
    | _, _ => none
  | _ => none

def valDF (h : T Blk) (t : T DV) (op : Op) : Option DV := match valDE P F h t op with
  | some d => some d
  | none => valF P h t op

def memDF (h : T Blk) (n : Nat) (t : T DV) (op : Op) : Option Out := match memDE P F h n t op with
  | some r => some r
  | none => memF P h n t op

variable {P} {F}

theorem born_nodup {en : Array MapEntry} (h : en.toList.map (·.born) = List.range en.size) : (en.toList.map (·.born)).Nodup := by
  rw [h]; exact List.nodup_range

theorem born_at {en : Array MapEntry} (h : en.toList.map (·.born) = List.range en.size) {i : Nat} {e : MapEntry} (he : en.toList[i]? = some e) : e.born = i := by
  have h1 : (en.toList.map (·.born))[i]? = some e.born := by rw [List.getElem?_map, he]; rfl
  rw [h] at h1
  have hlt := (List.getElem?_eq_some_iff.1 h1).1
  have h2 := (List.getElem?_eq_some_iff.1 h1).2
  simp at h2
  exact h2.symm

/-- What an iterator that is known is. -/
theorem iterD_spec {m : Emb} {ρ : Env} {h : T Blk} {t : T DV} {a : Act} {w : World} (hH : HeapR m ρ h w) (ht : TmpR m ρ t a) {it : Operand} {id mp : Nat} {seen : List E} {last : Option Nat} {es : List (DV × DV)} (hd : iterD h t it = some (id, mp, seen, last, es)) :
    ∃ (r bm : Nat) (sn : Array Nat) (en : Array MapEntry), a.eval it = .pointer (some ⟨r, 0, none⟩) ∧ m.ι id = some r ∧ m.ι mp = some bm ∧ w.heap[r]? = some (.mapIter (some bm) seen.length sn seen.length) ∧ w.heap[bm]? = some (.map en seen.length) ∧
      h.get id = some (.itb mp seen last) ∧ h.get mp = some (.mpb es) ∧ es.length = seen.length ∧ en.size = seen.length ∧ en.toList.map (·.born) = List.range en.size ∧
      DV.RL m ρ (es.map (·.1)) (en.toList.map (·.key)) ∧ DV.RL m ρ (es.map (·.2)) (en.toList.map (·.val)) ∧
      (∀ (i : Nat) (e : E), seen[i]? = some e → (sn.contains i = (e.ev ρ).bool)) ∧ ∀ i, last = some i → ∃ s0 : Array Nat, sn = s0.push i := by
  unfold iterD at hd
  split at hd
  · rename_i id' hp
    split at hd
    · rename_i mp' seen' last' hb
      split at hd
      · rename_i es' hm
        split at hd
        · rename_i hlen
          cases hd
          have h1 := opd_R ht hp
          simp only [DV.R] at h1
          obtain ⟨r, hr, hv⟩ := h1
          obtain ⟨r', o, g1, g2, g3⟩ := hH.blk _ _ hb rfl
          rw [hr] at g1; cases g1
          obtain ⟨bm, sn, rfl, k1, k2, k3⟩ := g3
          obtain ⟨bm', o', q1, q2, q3⟩ := hH.blk _ _ hm rfl
          rw [k1] at q1; cases q1
          obtain ⟨en, clk, rfl, e1, e2, e3, e4⟩ := q3
          have hsz : en.size = es.length := by have := e1.length; simpa using this
          refine ⟨r, bm, sn, en, ?_, hr, k1, g2, ?_, hb, hm, hlen, by omega, e4, e1, e2, k2, k3⟩
          · simpa [Off.den, sumT] using hv
          · rw [q2, e3, hsz, hlen]
        · cases hd
      · cases hd
    · cases hd
  · cases hd

theorem memF_sound {m : Emb} {ρ : Env} {h : T Blk} {n : Nat} {t : T DV} {a : Act} {w : World} (hH : HeapR m ρ h w) (ht : TmpR m ρ t a) (hf : ∀ id, n ≤ id → m.ι id = none) {o : Oper} {r : Out}
    (hd : memF P h n t o.op = some r) : OpOk m ρ h w ((execOp a.eval o).run P w) r := by
  obtain ⟨dst, op, type, pos, after, guard⟩ := o
  simp only at hd
  cases op <;> simp only [memF, reduceCtorEq] at hd
  case range ty x =>
    split at hd
    · rename_i kt et id hty hx
      split at hd
      · rename_i es hm
        cases hd
        have h1 := opd_R ht hx
        simp only [DV.R] at h1
        obtain ⟨bm, hb, hv⟩ := h1
        obtain ⟨bm', o', q1, q2, q3⟩ := hH.blk _ _ hm rfl
        rw [hb] at q1; cases q1
        obtain ⟨en, clk, rfl, e1, e2, e3, e4⟩ := q3
        have hsz : en.size = es.length := by have := e1.length; simpa using this
        have hrun := run_range_map (P := P) w ty kt et bm en clk hty q2
        have hid : id < n := by
          rcases Nat.lt_or_ge id n with hlt | hge
          · exact hlt
          · rw [hf id hge] at hb; cases hb
        refine new_ok (k := 0) (o := .mapIter (some bm) clk #[] clk) (v := .pointer (some ⟨w.heap.size, 0, none⟩)) hH hf ?_ ?_ ?_
        · refine ⟨bm, #[], by simp [e3, hsz], hb, fun i e he => ?_, fun i hi => by cases hi⟩
          rw [List.getElem?_replicate] at he
          split at he
          · cases he; simp [E.ev]
          · cases he
        · simp only [DV.R]
          exact ⟨w.heap.size, by simp [Emb.put], by simp [Off.den, sumT]⟩
        · simp only [execOp, Sem.run_bind, hv, hrun, Result.andThen_ok, Sem.run_pure]
      · cases hd
    · cases hd

theorem holdD_R {m : Emb} {ρ : Env} {d : DV} {v : Value} (h : d.R m ρ v) (ok : Bool) : (holdD d ok).R m ρ (if ok then .tuple #[v, .bool true] else v) := by
  cases ok with
  | false => exact h
  | true =>
    simp only [holdD, if_true, DV.R, DV.RL]
    exact ⟨_, rfl, v, _, rfl, h, _, _, rfl, rfl, rfl⟩

theorem failD_run {m : Emb} {ρ : Env} {asserted : TypeId} {ok : Bool} {d : DV} (h : failD P asserted ok = some d) (w : World) : ok = true ∧ ∃ z, (zeroValue asserted).run P w = .ok z w ∧ d.R m ρ (.tuple #[z, .bool false]) := by
  cases ok with
  | false => cases h
  | true =>
    simp only [failD, if_true, Option.map_eq_some_iff] at h
    obtain ⟨z, hz, rfl⟩ := h
    obtain ⟨i, zv, hi, hzv, hr⟩ := zeroD_R hz m ρ
    refine ⟨rfl, zv, by simp [zeroValue, typeInfo, hi, hzv], ?_⟩
    simp only [DV.R, DV.RL]
    exact ⟨_, rfl, zv, _, rfl, hr, _, _, rfl, rfl, rfl⟩

theorem assertD_run {m : Emb} {ρ : Env} {asserted xt : TypeId} {ok : Bool} {d e : DV} {v : Value} (h : assertD P asserted ok d = some e) (hv : d.R m ρ v) (w : World) : ∃ u, (Instr.typeAssert v xt asserted ok).run P w = .ok u w ∧ e.R m ρ u := by
  cases d <;> simp only [assertD, reduceCtorEq] at h
  case nili =>
    have hv' : v = .nilIface := hv
    subst hv'
    simp only [Option.bind_eq_some_iff] at h
    obtain ⟨u, hu, hf⟩ := h
    obtain ⟨rfl, z, hz, hr⟩ := failD_run (m := m) (ρ := ρ) hf w
    refine ⟨_, ?_, hr⟩
    cases u <;> simp [Instr.typeAssert, Sem.run_bind, run_underlying hu, Result.andThen_ok, hz]
  case ifc ty d =>
    simp only [DV.R] at hv
    obtain ⟨x, rfl, hx⟩ := hv
    split at h
    · rename_i want hu
      split at h
      · rename_i i hi
        have hti : (typeInfo ty).run P w = .ok i w := by simp [typeInfo, hi]
        split at h
        · rename_i hm
          cases h
          refine ⟨_, ?_, holdD_R (d := .ifc ty d) (v := .iface ty x) (by simp only [DV.R]; exact ⟨x, rfl, hx⟩) ok⟩
          simp [Instr.typeAssert, Sem.run_bind, run_underlying hu, Result.andThen_ok, hti, hm]
        · rename_i mm hm
          obtain ⟨rfl, z, hz, hr⟩ := failD_run (m := m) (ρ := ρ) h w
          refine ⟨_, ?_, hr⟩
          simp [Instr.typeAssert, Sem.run_bind, run_underlying hu, Result.andThen_ok, hti, hm, hz]
      · cases h
    · rename_i u hne hu
      split at h
      · rename_i e1
        cases h
        refine ⟨_, ?_, holdD_R hx ok⟩
        cases u <;> first
          | exact (hne _ rfl).elim
          | simp [Instr.typeAssert, Sem.run_bind, run_underlying hu, Result.andThen_ok, e1]
      · rename_i e1
        obtain ⟨rfl, z, hz, hr⟩ := failD_run (m := m) (ρ := ρ) h w
        refine ⟨_, ?_, hr⟩
        cases u <;> first
          | exact (hne _ rfl).elim
          | simp [Instr.typeAssert, Sem.run_bind, run_underlying hu, Result.andThen_ok, e1, hz]
    · cases h

theorem valF_sound {m : Emb} {ρ : Env} {h : T Blk} {t : T DV} {a : Act} {w : World} (hH : HeapR m ρ h w) (ht : TmpR m ρ t a) {o : Oper} {d : DV} (hd : valF P h t o.op = some d) :
    ∃ v, (execOp a.eval o).run P w = .ok (.value v) w ∧ d.R m ρ v := by
  obtain ⟨dst, op, type, pos, after, guard⟩ := o
  simp only at hd
  cases op <;> simp only [valF, reduceCtorEq] at hd
  case typeAssert x xt asserted ok =>
    simp only [Option.bind_eq_some_iff] at hd
    obtain ⟨dx, hx, hd⟩ := hd
    obtain ⟨u, hrun, hr⟩ := assertD_run (xt := xt) hd (opd_R ht hx) w
    exact ⟨u, by simp only [execOp, Sem.run_bind, hrun, Result.andThen_ok, Sem.run_pure], hr⟩
  case entry it =>
    split at hd
    · rename_i id mp seen i es hit
      split at hd
      · rename_i k v hkv
        cases hd
        obtain ⟨r, bm, sn, en, h1, h2, h3, h4, h5, h6, h7, h8, h9, h10, h11, h12, h13, h14⟩ := iterD_spec hH ht hit
        obtain ⟨s0, rfl⟩ := h14 i rfl
        have hi : i < en.toList.length := by
          have := (List.getElem?_eq_some_iff.1 hkv).1
          simp; omega
        have he : en.toList[i]? = some en.toList[i] := List.getElem?_eq_getElem hi
        have hborn := born_at h10 he
        have hrun := run_entry_at (P := P) w r bm seen.length s0 en seen.length en.toList[i] (by rw [hborn]; exact h4) h5 (List.getElem_mem hi) (born_nodup h10)
        refine ⟨.tuple #[en.toList[i].key, en.toList[i].val], by simp only [execOp, Sem.run_bind, h1, hrun, Result.andThen_ok, Sem.run_pure], ?_⟩
        obtain ⟨vk, g1, g2⟩ := h11.get (i := i) (d := k) (by rw [List.getElem?_map, hkv]; rfl)
        obtain ⟨vv, g3, g4⟩ := h12.get (i := i) (d := v) (by rw [List.getElem?_map, hkv]; rfl)
        rw [List.getElem?_map, he] at g1 g3
        simp only [Option.map_some, Option.some.injEq] at g1 g3
        simp only [DV.R, DV.RL]
        exact ⟨_, rfl, _, _, rfl, by rw [g1]; exact g2, _, _, rfl, by rw [g3]; exact g4, rfl⟩
      · cases hd
    · cases hd

theorem valDF_sound {m : Emb} {ρ : Env} (hF : F.ok ρ) {h : T Blk} {t : T DV} {a : Act} {w : World} (hH : HeapR m ρ h w) (ht : TmpR m ρ t a) {o : Oper} {d : DV} (hd : valDF P F h t o.op = some d) :
    ∃ v, (execOp a.eval o).run P w = .ok (.value v) w ∧ d.R m ρ v := by
  unfold valDF at hd
  split at hd
  · rename_i d' h'; cases hd; exact valDE_sound hF hH ht h'
  · exact valF_sound hH ht hd

theorem memDF_sound {m : Emb} {ρ : Env} (hF : F.ok ρ) {h : T Blk} {n : Nat} {t : T DV} {a : Act} {w : World} (hH : HeapR m ρ h w) (ht : TmpR m ρ t a) (hf : ∀ id, n ≤ id → m.ι id = none) {o : Oper} {r : Out}
    (hd : memDF P F h n t o.op = some r) : OpOk m ρ h w ((execOp a.eval o).run P w) r := by
  unfold memDF at hd
  split at hd
  · rename_i r' h'; cases hd; exact memDE_sound hF hH ht hf h'
  · exact memF_sound hH ht hf hd

/-- The step of a loop over a map: all have been handed out, or one is that has not been. -/
theorem next_run {m : Emb} {ρ : Env} {h : T Blk} {t : T DV} {a : Act} {w : World} (hH : HeapR m ρ h w) (ht : TmpR m ρ t a) {it : Operand} {id mp : Nat} {seen : List E} {last : Option Nat} {es : List (DV × DV)} (hd : iterD h t it = some (id, mp, seen, last, es)) (ty : TypeId) :
    ((∀ e ∈ seen, (e.ev ρ).bool = true) ∧ (Instr.next (a.eval it) false ty).run P w = .ok (.tuple #[.bool false]) w) ∨
    ∃ (i : Nat) (e : E) (k v : DV) (vk vv : Value) (w' : World), seen[i]? = some e ∧ (e.ev ρ).bool = false ∧ es[i]? = some (k, v) ∧ k.R m ρ vk ∧ v.R m ρ vv ∧
      (Instr.next (a.eval it) false ty).run P w = .ok (.tuple #[.bool true, vk, vv]) w' ∧
      HeapR m ρ (h.set id (.itb mp (seen.set i (.lb true)) (some i))) w' ∧ Trans m h w m (h.set id (.itb mp (seen.set i (.lb true)) (some i))) w' := by
  obtain ⟨r, bm, sn, en, h1, h2, h3, h4, h5, h6, h7, h8, h9, h10, h11, h12, h13, h14⟩ := iterD_spec hH ht hd
  have hold : ∀ x ∈ en.toList, x.born < seen.length := fun x hx => by
    obtain ⟨i, hi⟩ := List.mem_iff_getElem?.1 hx
    rw [born_at h10 hi]
    have := (List.getElem?_eq_some_iff.1 hi).1
    simp at this; omega
  rcases run_next_at (P := P) w ty r bm seen.length seen.length sn en seen.length h4 h5 hold (Nat.le_refl _) with ⟨h0, hrun⟩ | ⟨e, he, w1, hw1, hrun⟩
  · left
    refine ⟨fun x hx => ?_, by rw [h1]; exact hrun⟩
    obtain ⟨i, hi⟩ := List.mem_iff_getElem?.1 hx
    have hlt := (List.getElem?_eq_some_iff.1 hi).1
    have hi' : i < en.toList.length := by simp; omega
    have hei : en.toList[i]? = some en.toList[i] := List.getElem?_eq_getElem hi'
    have hb := born_at h10 hei
    rw [← h13 i x hi]
    cases hc : sn.contains i with
    | true => rfl
    | false =>
      have : en.toList[i] ∈ (leftOf en sn).toList := by
        unfold leftOf
        simp only [Array.toList_filter, List.mem_filter]
        exact ⟨List.getElem_mem hi', by rw [hb, hc]; rfl⟩
      have h00 : (leftOf en sn).toList = [] := List.eq_nil_of_length_eq_zero (by simpa using h0)
      rw [h00] at this; cases this
  · right
    unfold leftOf at he
    simp only [Array.toList_filter, List.mem_filter] at he
    obtain ⟨i, hi⟩ := List.mem_iff_getElem?.1 he.1
    have hb := born_at h10 hi
    have hlt := (List.getElem?_eq_some_iff.1 hi).1
    have hlt' : i < seen.length := by simp at hlt; omega
    have hse : seen[i]? = some seen[i] := List.getElem?_eq_getElem hlt'
    have hle : i < es.length := by omega
    have hes : es[i]? = some (es[i].1, es[i].2) := List.getElem?_eq_getElem hle
    have hnot : sn.contains i = false := by have := he.2; rw [hb] at this; simpa using this
    obtain ⟨vk, g1, g2⟩ := h11.get (i := i) (d := es[i].1) (by rw [List.getElem?_map, hes]; rfl)
    obtain ⟨vv, g3, g4⟩ := h12.get (i := i) (d := es[i].2) (by rw [List.getElem?_map, hes]; rfl)
    rw [List.getElem?_map, hi] at g1 g3
    simp only [Option.map_some, Option.some.injEq] at g1 g3
    have hrlt := (Array.getElem?_eq_some_iff.1 h4).1
    have hheap : w1.heap = w.heap ∧ w1.tape = w.tape ∧ w1.os = w.os ∧ w1.output = w.output := by rcases hw1 with rfl | rfl <;> exact ⟨rfl, rfl, rfl, rfl⟩
    have hat : (ChangeMaps.setBlock w1 r (.mapIter (some bm) seen.length (sn.push e.born) seen.length)).heap[r]? = some (.mapIter (some bm) seen.length (sn.push e.born) seen.length) := by
      simp [ChangeMaps.setBlock, hheap.1, hrlt]
    have hother : ∀ c, c ≠ r → (ChangeMaps.setBlock w1 r (.mapIter (some bm) seen.length (sn.push e.born) seen.length)).heap[c]? = w.heap[c]? := fun c hc => by
      simp only [ChangeMaps.setBlock, hheap.1]
      exact Array.getElem?_setIfInBounds_ne (fun e => hc e.symm)
    have hblk : (Blk.itb mp (seen.set i (.lb true)) (some i)).R m ρ (m.κ id) (.mapIter (some bm) seen.length (sn.push e.born) seen.length) := by
      refine ⟨bm, sn.push e.born, by simp, h3, fun j x hj => ?_, fun j hj => ⟨sn, by cases hj; rw [hb]⟩⟩
      rw [List.getElem?_set] at hj
      rw [Array.contains_push, hb]
      split at hj
      · rename_i eij
        subst eij
        cases hj
        simp [E.ev]
      · rename_i eij
        rw [h13 j x hj]
        have : (j == i) = false := by simp; omega
        simp [this]
    refine ⟨i, seen[i], es[i].1, es[i].2, vk, vv, _, hse, by rw [← h13 i _ hse]; exact hnot, hes, g2, g4, by rw [h1, hrun, g1, g3], ?_, ?_⟩
    · exact hH.write h6 rfl h2 hat hblk rfl hother
    · exact Trans.write h6 rfl h2 hother (by simp [ChangeMaps.setBlock, hheap.1]) (by simp [ChangeMaps.setBlock, hheap.2.1]) (by simp [ChangeMaps.setBlock, hheap.2.2.1]) (by simp [ChangeMaps.setBlock, hheap.2.2.2])
end
end Go.Eng

/-
  Rows of cells that are not known one by one: stores into them, what is appended to them, cells that are made a row.
-/
namespace Go.Eng

section
variable (P : Program) (F : Facts)

/-- A cell as a row of one. -/
def cellE : Kd → DV → Option E
  | .int k, .int k' e => if k = k' ∧ inKind F k e = true then some (.un (.row (.cI k)) e) else none
  | .bool, .bool e => some (.un (.row .cB) e)
  | .str, .str e => some (.un (.row .cS) e)
  | _, _ => none

def rowE : List Kd → List DV → Option E
  | k :: _, [d] => cellE F k d
  | k :: ks, d :: ds => match cellE F k d, rowE ks ds with
    | some a, some b => some (.bi (.row .cat) a b)
    | _, _ => none
  | _, _ => none

/-- The kinds of the cells of so many elements. -/
def cyc (sh : List Kd) (n : Nat) : List Kd := (List.range (n * sh.length)).map fun i => sh.getD (i % sh.length) .any

def storeArr (h : T Blk) (t : TypeId) (id : Nat) (o : Off) (x : DV) : Option (T Blk) := match h.get id with
  | some (.arr q a n sh t0 md) => match recOf q o sh.length, P.info? t with
    | some (e, f), some i =>
      if x.cells.length = i.size ∧ x.cells.all DV.one = true ∧ md.rw' = true ∧ f + i.size ≤ sh.length ∧ (E.bi .lt e (.li 0)).dec F = some false ∧ (E.bi .lt e n).dec F = some true then
        match rowE F (sh.drop f) x.cells with
        | some row => some (h.set id (.arr q (.tr (.row .set) a (idxE e sh.length f) row) n sh t0 md))
        | none => none
      else none
    | _, _ => none
  | _ => none

def appArr (h : T Blk) (n : Nat) (e : TypeId) (size : Nat) (s : DV) (k : Nat) (news : List DV) : Option Out := match s with
  | .slc id o len (.own (.li 0)) => match o.terms, h.get id with
    | [], some (.arr (.li 0) a n0 sh _ md) =>
      if o.base = 0 ∧ md = .own size ∧ sh.length = size ∧ 0 < k ∧ len.same n0 = true then
        match len.rng F, rowE F (cyc sh k) news with
        | (_, some hi), some row => if hi + k ≤ 1000000 then
            some ⟨.slc n ⟨0, []⟩ (addI len (.li k)) (.own (.li 0)), (h.set id .dead).set n (.arr (.li 0) (.bi (.row .cat) a row) (addI len (.li k)) sh e (.own size)), n + 1⟩ else none
        | _, _ => none
      else none
    | _, _ => none
  | _ => none

/-- What is cleared. -/
def clearD (h : T Blk) (n : Nat) (size : Nat) (z : List DV) : DV → Option Out
  | .nils => some ⟨.tup [], h, n⟩
  | .mt => some ⟨.tup [], h, n⟩
  | .slc id o (.li a) _ => match o.terms, h.get id with
    | [], some (.cells l t md) =>
      if 0 ≤ a ∧ md.rw' = true ∧ o.base + a.toNat * size ≤ l.length then
        some ⟨.tup [], h.set id (.cells (setL l o.base (rowD (a.toNat * size) z)) t md), n⟩
      else none
    | _, _ => none
  | _ => none

def memG (h : T Blk) (n : Nat) (t : T DV) : Op → Option Out
  | .store ty a x => match opd t a, opd t x with
    | some (.ptr id o), some d => match storeArr P F h ty id o d with
      | some h' => some ⟨.tup [], h', n⟩
      | none => none
    | _, _ => none
  | .call c => match c.callee, c.args.toList.mapM (opd t) with
    | .builtin .append, some [s, x] => match c.argTypes.toList with
      | ts :: tx :: _ => match P.underlying ts with
        | some (.slice e) => match P.info? e, zeroD P e with
          | some ie, some z => if ie.bytes ≤ 1000000 ∧ z.cells.length = ie.size then
              match newsD P h ie.size tx x with
              | some (k, news) => appArr F h n e ie.size s k news
              | none => none
            else none
          | _, _ => none
        | _ => none
      | _ => none
    | .builtin .clear, some [s] => match c.argTypes.toList with
      | ts :: _ => match P.underlying ts with
        | some (.slice e) => match P.info? e, zeroD P e with
          | some ie, some z => if z.cells.length = ie.size ∧ z.cells ≠ [] ∧ z.cells.all DV.one = true then clearD h n ie.size z.cells s else none
          | _, _ => none
        | _ => none
      | _ => none
    | _, _ => none
  | _ => none

def memDG (h : T Blk) (n : Nat) (t : T DV) (op : Op) : Option Out := match memDF P F h n t op with
  | some r => some r
  | none => memG P F h n t op

def cellM : Kd → DV → Option E
  | .any, _ => some (.un (.row (.cI .u8)) (.li 0))
  | k, d => cellE F k d

/-- Cells as a row, those of no kind left out of account. -/
def rowM : List Kd → List DV → Option E
  | _, [] => some (.un (.row .ofS) (.ls ByteArray.empty))
  | k :: _, [d] => cellM F k d
  | k :: ks, d :: ds => match cellM F k d, rowM ks ds with
    | some a, some b => some (.bi (.row .cat) a b)
    | _, _ => none
  | _, _ => none

/-- Cells that are made a row. -/
def asRow : Blk → Blk → Blk
  | .mix p _ _ sh s _ _, .cells l t md => match rowM F (cyc sh ((l.length - p.length - s.length) / sh.length)) ((l.drop p.length).take ((l.length - p.length - s.length) / sh.length * sh.length)) with
    | some row => if p.length + (l.length - p.length - s.length) / sh.length * sh.length + s.length = l.length then
        .mix (l.take p.length) row (.li ((l.length - p.length - s.length) / sh.length : Nat)) sh (l.drop (p.length + (l.length - p.length - s.length) / sh.length * sh.length)) t md else .cells l t md
    | none => .cells l t md
  | .arr _ _ _ sh _ _, .cells l t md => match rowE F (cyc sh (l.length / sh.length)) l with
    | some row => if 0 < sh.length ∧ (l.length / sh.length) * sh.length = l.length then .arr (.li 0) row (.li (l.length / sh.length : Nat)) sh t md else .cells l t md
    | none => .cells l t md
  | _, B => B

variable {P} {F}

theorem inKind_rng {ρ : Env} (hF : F.ok ρ) {k : IntKind} {a : E} (h : inKind F k a = true) : k.min ≤ (a.ev ρ).int ∧ (a.ev ρ).int ≤ k.max := by
  unfold inKind at h
  have hr := E.rng_has hF a
  split at h
  · rename_i l h' he
    simp at h
    rw [he] at hr
    have := hr.1 l rfl; have := hr.2 h' rfl
    omega
  · cases h

theorem cellE_ok {ρ : Env} (hF : F.ok ρ) {m : Emb} {k : Kd} {d : DV} {e : E} (h : cellE F k d = some e) {v : Value} (hv : d.R m ρ v) : (e.ev ρ).arr = [v] ∧ k.ok v := by
  unfold cellE at h
  split at h
  · rename_i k k' x
    split at h
    · rename_i hc
      cases h
      obtain ⟨rfl, hk⟩ := hc
      simp only [DV.R] at hv; subst hv
      exact ⟨rfl, _, rfl, inKind_rng hF hk⟩
    · cases h
  · cases h
    simp only [DV.R] at hv; subst hv
    exact ⟨rfl, _, rfl⟩
  · cases h
    simp only [DV.R] at hv; subst hv
    exact ⟨rfl, _, rfl⟩
  · cases h

theorem rowE_ok {ρ : Env} (hF : F.ok ρ) {m : Emb} : ∀ {ks : List Kd} {ds : List DV} {e : E} {vs : List Value}, rowE F ks ds = some e → DV.RL m ρ ds vs → (e.ev ρ).arr = vs ∧ ∀ (i : Nat) (v : Value), vs[i]? = some v → ∃ k, ks[i]? = some k ∧ k.ok v
  | [], ds, e, vs, h, _ => by simp [rowE] at h
  | k :: ks, [], e, vs, h, _ => by simp [rowE] at h
  | k :: ks, [d], e, vs, h, hv => by
    simp only [rowE] at h
    simp only [DV.RL] at hv
    obtain ⟨v, vr, rfl, h1, rfl⟩ := hv
    obtain ⟨g1, g2⟩ := cellE_ok hF h h1
    refine ⟨g1, fun i u hu => ?_⟩
    cases i with
    | zero => simp at hu; subst hu; exact ⟨k, rfl, g2⟩
    | succ i => simp at hu
  | k :: ks, d :: d2 :: ds, e, vs, h, hv => by
    simp only [rowE] at h
    split at h
    · rename_i a b ha hb
      cases h
      simp only [DV.RL] at hv
      obtain ⟨v, vr, rfl, h1, h2⟩ := hv
      obtain ⟨g1, g2⟩ := cellE_ok hF ha h1
      obtain ⟨q1, q2⟩ := rowE_ok hF hb (vs := vr) (by simp only [DV.RL]; exact h2)
      refine ⟨by simp only [E.ev, B2.ev, RB.ev, Sc.arr_A, g1, q1, List.singleton_append], fun i u hu => ?_⟩
      cases i with
      | zero => simp at hu; subst hu; exact ⟨k, rfl, g2⟩
      | succ i => simpa using q2 i u (by simpa using hu)
    · cases h

theorem cyc_get {sh : List Kd} {n i : Nat} {k : Kd} (h : (cyc sh n)[i]? = some k) : k = sh.getD (i % sh.length) .any := by
  unfold cyc at h
  simp only [List.getElem?_map, Option.map_eq_some_iff] at h
  obtain ⟨j, hj, rfl⟩ := h
  obtain ⟨_, rfl⟩ := range_get hj
  rfl

/-- A row where another one is laid over. -/
theorem set_get {l r : List Value} {p : Nat} (hfit : p + r.length ≤ l.length) (i : Nat) : (l.take p ++ r ++ l.drop (p + r.length))[i]? = if i < p then l[i]? else if i < p + r.length then r[i - p]? else l[i]? := by
  rw [List.append_assoc, List.getElem?_append]
  simp only [List.length_take, Nat.min_eq_left (show p ≤ l.length by omega)]
  split
  · rename_i h; rw [List.getElem?_take, if_pos h]
  · rename_i h
    rw [List.getElem?_append]
    split
    · rename_i h'; rw [if_pos (by omega)]
    · rename_i h'; rw [if_neg (by omega), List.getElem?_drop]; congr 1; omega

theorem storeArr_sound {ρ : Env} (hF : F.ok ρ) {m : Emb} {h h' : T Blk} {w : World} (hH : HeapR m ρ h w) {t : TypeId} {id : Nat} {o : Off} {x : DV} (hd : storeArr P F h t id o x = some h') {vp vx : Value} (hp : (DV.ptr id o).R m ρ vp) (hx : x.R m ρ vx) :
    ∃ w', (Instr.storeAt t vp vx).run P w = .ok () w' ∧ HeapR m ρ h' w' ∧ Trans m h w m h' w' := by
  unfold storeArr at hd
  simp only [DV.R] at hp
  obtain ⟨b, hb, rfl⟩ := hp
  split at hd
  · rename_i q a n sh t0 md hg
    obtain ⟨b', ob, hb', ho, c, fr, ⟨t', rfl⟩, hlen, hle, hc, hk, hmd⟩ := hH.blk id _ hg rfl
    rw [hb] at hb'; cases hb'
    split at hd
    · rename_i e f i hrec hi
      obtain ⟨hden, hf⟩ := recOf_den (ρ := ρ) hrec
      split at hd
      · rename_i hcond
        obtain ⟨hsz, hone, hro, hfs, hd0, hdn⟩ := hcond
        split at hd
        · rename_i row hrow
          cases hd
          have h0 := nonneg_of hF hd0
          have h1 : (e.ev ρ).int < (n.ev ρ).int := of_decide_eq_true (E.dec_sound hF hdn)
          have hfr : fr = (0, 0) := Md.fr_of hmd hro
          subst hfr
          have hrw : (Blk.arr q a n sh t0 md).rw = true := hro
          have hcs := hx.cells
          have hl := hcs.length
          have hvsz : vx.cells.size = i.size := by simpa [hsz] using hl
          obtain ⟨er, kr⟩ := rowE_ok hF hrow hcs
          have hrl : vx.cells.toList.length = i.size := by simpa using hvsz
          have hpos : (e.ev ρ).int.toNat * sh.length + f + i.size ≤ (a.ev ρ).arr.length := by
            rw [hlen]
            calc (e.ev ρ).int.toNat * sh.length + f + i.size ≤ (e.ev ρ).int.toNat * sh.length + sh.length := by omega
              _ = ((e.ev ρ).int.toNat + 1) * sh.length := by rw [Nat.add_mul]; omega
              _ ≤ _ := Nat.mul_le_mul_right _ (by omega)
          have hfit : o.den ρ + vx.cells.size ≤ c.size := by omega
          have hrun := storeVar_row (P := P) (ty := t) ho hi hvsz hfit (RL_one hcs hone)
          have hidx : ((idxE e sh.length f).ev ρ).int.toNat = (e.ev ρ).int.toNat * sh.length + f := by
            rw [idxE_int]
            obtain ⟨z, hz⟩ := Int.eq_ofNat_of_zero_le h0
            rw [hz]; simp only [Int.toNat_natCast]; omega
          have hfit' : (e.ev ρ).int.toNat * sh.length + f + vx.cells.toList.length ≤ (a.ev ρ).arr.length := by rw [hrl]; exact hpos
          have hset : ((E.tr (.row .set) a (idxE e sh.length f) row).ev ρ).arr = (a.ev ρ).arr.take ((e.ev ρ).int.toNat * sh.length + f) ++ vx.cells.toList ++ (a.ev ρ).arr.drop ((e.ev ρ).int.toNat * sh.length + f + vx.cells.toList.length) := by
            simp only [E.ev, B3.ev, RT.ev, Sc.arr_A, hidx, er, setRow]
            rw [if_pos hfit']
          have hsetl : ((E.tr (.row .set) a (idxE e sh.length f) row).ev ρ).arr.length = (a.ev ρ).arr.length := by
            rw [hset]; simp only [List.length_append, List.length_take, List.length_drop]; omega
          refine ⟨_, by simp only [Instr.storeAt, Instr.sureAddr, Sem.run_bind, Sem.run_pure, Result.andThen_ok]; exact hrun, ?_, Trans.write hg hrw hb (fun k hk => setRow_other w b k _ hk) (by simp) rfl rfl rfl⟩
          refine hH.write hg hrw hb (setRow_heap w b c _ t' (0, 0) ho) ?_ hro (fun k hk => setRow_other w b k _ hk)
          have hsz2 : (cur_size c vx (o.den ρ)) = c.size := cur_size_eq hfit
          refine ⟨_, _, ⟨_, rfl⟩, ?_, ?_, fun j v hj => ?_, fun j v hj => ?_, ?_⟩
          · rw [hsetl]; exact hlen
          · rw [hsetl]
            have : ((c.toList.take (o.den ρ) ++ vx.cells.toList ++ c.toList.drop (o.den ρ + vx.cells.toList.length)).toArray).size = c.size := hsz2
            rw [this]; exact hle
          · rw [splice_get (by rw [hrl, ← hvsz]; exact hfit)]
            rw [hset, set_get hfit'] at hj
            rw [hden]
            split at hj
            · rename_i hlt; rw [if_pos (by omega)]; exact hc j v hj
            · rename_i hlt
              rw [if_neg (by omega)]
              split at hj
              · rename_i hlt2; rw [if_pos (by omega)]
                rw [show (q.ev ρ).int.toNat + j - ((q.ev ρ).int.toNat + ((e.ev ρ).int.toNat * sh.length + f)) = j - ((e.ev ρ).int.toNat * sh.length + f) by omega]
                exact hj
              · rename_i hlt2; rw [if_neg (by omega)]; exact hc j v hj
          · rw [hset, set_get hfit'] at hj
            split at hj
            · exact hk j v hj
            · rename_i hlt
              split at hj
              · rename_i hlt2
                obtain ⟨k, hk1, hk2⟩ := kr _ _ hj
                rw [List.getElem?_drop] at hk1
                have hm : j % sh.length = f + (j - ((e.ev ρ).int.toNat * sh.length + f)) := by
                  have hj2 : j = f + (j - ((e.ev ρ).int.toNat * sh.length + f)) + (e.ev ρ).int.toNat * sh.length := by omega
                  generalize f + (j - ((e.ev ρ).int.toNat * sh.length + f)) = y at hj2 ⊢
                  have hy : y < sh.length := by omega
                  rw [hj2, Nat.add_mul_mod_self_right, Nat.mod_eq_of_lt hy]
                rw [hm, List.getD_eq_getElem?_getD, hk1]
                exact hk2
              · exact hk j v hj
          · cases md with
            | ro => cases hro
            | gl g => cases hro
            | reg l => cases hro
            | rw => rfl
            | own s => exact ⟨rfl, by have := hmd.2; unfold cur_size at hsz2; rw [hsz2]; exact this⟩
        · cases hd
      · cases hd
    · cases hd
  · cases hd

/-- There is no room: a new row. -/
theorem app_growB {m : Emb} {ρ : Env} {h : T Blk} {n : Nat} {w : World} (hH : HeapR m ρ h w) (hf : ∀ id, n ≤ id → m.ι id = none) {t tx ty e : TypeId} {ie : TypeInfo} {z : DV} (ht : P.underlying t = some (.slice e)) (hie : P.info? e = some ie) (hz : zeroD P e = some z)
    (hzl : z.cells.length = ie.size) (hby : ie.bytes ≤ 1000000) {base : Option Addr} {sLen sCap k : Nat} {x : Value} {vo vn : List Value}
    (hold : (Builtin.firstCells ie.size sLen (.slice base sLen sCap)).run P w.drew = .ok vo.toArray w.drew) (holen : vo.length = sLen * ie.size) (hs : Src P ie.size tx x k vn w) (hg : sCap < sLen + k) (hsmall : sLen + k ≤ 1000000)
    {B : Blk} (hB : ∀ (c : Array Value), (∀ (j : Nat) (v : Value), (vo ++ vn)[j]? = some v → c[j]? = some v) → ∀ g, g * ie.size ≤ c.size → (vo ++ vn).length ≤ c.size → B.R m ρ g (.cells c e)) {L : E} (hL : (L.ev ρ).int = (sLen : Int) + k)
    {run : Result Next} (hrun : ∀ v w', (Builtin.append_ #[t, tx] ty #[.slice base sLen sCap, x]).run P w = .ok v w' → run = .ok (.value v) w') :
    OpOk m ρ h w run ⟨.slc n ⟨0, []⟩ L (.own (.li 0)), h.set n B, n + 1⟩ := by
  obtain ⟨i, zv, hi, hzv, hr⟩ := zeroD_R hz m ρ
  rw [hie] at hi; cases hi
  have hzs : zv.cells.size = ie.size := by
    have := hr.cells.length; simp at this; omega
  have hb : (sLen + k) * ie.bytes ≤ 140737488355328 := by
    have : (sLen + k) * ie.bytes ≤ 1000000 * 1000000 := Nat.mul_le_mul hsmall hby
    omega
  have hr0 := run_append_grow_src (P := P) w t tx ty e ie zv ht hie hzv base sLen sCap vo hold x k vn hs hg (by omega) (growslice_fits hg hb)
  have hge := grownCap_ge w (sLen + k) sCap e
  have hnl := hs.newsLen
  have key := new_ok (k := grownCap w (sLen + k) sCap e) (hH.drew) hf
    (B := B) (o := .cells ((vo ++ vn).toArray ++ Builtin.zeroCells zv.cells (grownCap w (sLen + k) sCap e - (sLen + k))) e) ?_
    (d := .slc n ⟨0, []⟩ L (.own (.li 0))) (v := .slice (some ⟨w.heap.size, 0, none⟩) (sLen + k) (grownCap w (sLen + k) sCap e)) ?_ (hrun _ _ hr0)
  · obtain ⟨nx, v, w', m', h1, h2, h3, h4, h5, h6⟩ := key
    exact ⟨nx, v, w', m', h1, h2, h3, h4, h5.undrew, h6⟩
  · refine hB _ (fun j v hv => ?_) _ ?_ ?_
    · have hlt := (List.getElem?_eq_some_iff.1 hv).1
      rw [Array.getElem?_append_left (by simpa using hlt)]
      simpa using hv
    · simp only [Array.size_append, List.size_toArray, size_zeroCells, List.length_append, holen, hnl, hzs, ← Nat.add_mul]
      exact Nat.le_of_eq (by congr 1; omega)
    · simp only [Array.size_append, List.size_toArray]; omega
  · simp only [DV.R, E.ev, Sc.int_I, Cap.den]
    refine ⟨w.heap.size, by simp only [Emb.put, if_true]; rfl, ?_, by omega, ?_⟩
    · have : (L.ev ρ).int.toNat = sLen + k := by omega
      simp [Off.den, sumT, Emb.put, this]
    · simp [Emb.put]; omega

/-- A row that another one is put behind. -/
theorem cat_blk {m : Emb} {ρ : Env} {a row n0 L : E} {sh : List Kd} {k size : Nat} {vn : List Value} {t e : TypeId} (hlen : (a.ev ρ).arr.length = (n0.ev ρ).int.toNat * sh.length) (hk : ∀ (i : Nat) (v : Value), (a.ev ρ).arr[i]? = some v → (sh.getD (i % sh.length) .any).ok v)
    (hn0 : 0 ≤ (n0.ev ρ).int) (hL : (L.ev ρ).int = (n0.ev ρ).int + k) (er : (row.ev ρ).arr = vn) (kr : ∀ (i : Nat) (v : Value), vn[i]? = some v → (sh.getD (i % sh.length) .any).ok v) (hvn : vn.length = k * sh.length)
    {c : Array Value} (hc : ∀ (j : Nat) (v : Value), ((a.ev ρ).arr ++ vn)[j]? = some v → c[j]? = some v) {g : Nat} (hg : g * size ≤ c.size) (hsz : ((a.ev ρ).arr ++ vn).length ≤ c.size) : (Blk.arr (.li 0) (.bi (.row .cat) a row) L sh e (.own size)).R m ρ g (.cells c t) := by
  have hev : ((E.bi (.row .cat) a row).ev ρ).arr = (a.ev ρ).arr ++ vn := by simp only [E.ev, B2.ev, RB.ev, Sc.arr_A, er]
  refine ⟨c, (0, 0), ⟨_, rfl⟩, ?_, ?_, fun j v hj => ?_, fun j v hj => ?_, rfl, hg⟩
  · rw [hev, List.length_append, hlen, hvn, ← Nat.add_mul]; congr 1; omega
  · rw [hev]; simpa [E.ev] using hsz
  · rw [hev] at hj; simpa [E.ev] using hc j v hj
  · rw [hev, List.getElem?_append] at hj
    split at hj
    · exact hk j v hj
    · rename_i hlt
      have := kr _ v hj
      have hm : (j - (a.ev ρ).arr.length) % sh.length = j % sh.length := by
        have hj2 : j = (j - (a.ev ρ).arr.length) + (n0.ev ρ).int.toNat * sh.length := by omega
        conv => rhs; rw [hj2]
        rw [Nat.add_mul_mod_self_right]
      rw [hm] at this
      exact this

theorem appArr_sound {m : Emb} {ρ : Env} (hF : F.ok ρ) {h : T Blk} {n : Nat} {w : World} (hH : HeapR m ρ h w) (hf : ∀ id, n ≤ id → m.ι id = none) {t tx ty e : TypeId} {ie : TypeInfo} {z : DV} (ht : P.underlying t = some (.slice e)) (hie : P.info? e = some ie) (hz : zeroD P e = some z)
    (hzl : z.cells.length = ie.size) (hby : ie.bytes ≤ 1000000) {s : DV} {vs x : Value} {k : Nat} {news : List DV} {vn : List Value} (hvs : s.R m ρ vs) (hvn : DV.RL m ρ news vn) (hs : Src P ie.size tx x k vn w) {r : Out} (hd : appArr F h n e ie.size s k news = some r)
    {run : Result Next} (hrun : ∀ v w', (Builtin.append_ #[t, tx] ty #[vs, x]).run P w = .ok v w' → run = .ok (.value v) w') : OpOk m ρ h w run r := by
  have hnl := hs.newsLen
  unfold appArr at hd
  split at hd
  · rename_i id o len
    split at hd
    · rename_i a n0 sh t0 md hterms hg
      split at hd
      · rename_i hcond
        obtain ⟨hbase, rfl, hshl, hk0, hsame⟩ := hcond
        split at hd
        · rename_i lo hi row hrng hrow
          split at hd
          · rename_i hsmall
            cases hd
            have hln := E.same_eq hsame
            subst hln
            simp only [DV.R, Cap.den, E.ev, Sc.int_I, Int.toNat_zero, Nat.sub_zero] at hvs
            obtain ⟨b, hb, rfl, h0, hcap⟩ := hvs
            obtain ⟨b', ob, hb', ho, c, fr, ⟨t', rfl⟩, hlen, hle, hc, hkk, hmd⟩ := hH.blk id _ hg rfl
            rw [hb] at hb'; cases hb'
            obtain ⟨rfl, hκ⟩ := hmd
            simp only [E.ev, Sc.int_I, Int.toNat_zero, Nat.zero_add] at hc hle
            have hr := E.rng_has hF len
            rw [hrng] at hr
            have hhi := hr.2 hi rfl
            have hden : o.den ρ = 0 := by simp [Off.den, hterms, sumT, hbase]
            rw [hden] at hrun
            obtain ⟨er, kr⟩ := rowE_ok hF hrow hvn
            have kr' : ∀ (i : Nat) (v : Value), vn[i]? = some v → (sh.getD (i % sh.length) .any).ok v := fun i v hv => by
              obtain ⟨kk, h1, h2⟩ := kr i v hv
              rw [cyc_get h1] at h2
              exact h2
            have hL : ((addI len (.li k)).ev ρ).int = (len.ev ρ).int + k := by rw [addI_int]; rfl
            have hvn2 : vn.length = k * sh.length := by rw [hnl, hshl]
            by_cases hroom : (len.ev ρ).int.toNat + k ≤ m.κ id
            · have hfit2 : 0 + (len.ev ρ).int.toNat * ie.size + vn.length ≤ c.size := by
                rw [hnl]
                have : ((len.ev ρ).int.toNat + k) * ie.size ≤ m.κ id * ie.size := Nat.mul_le_mul_right _ hroom
                rw [Nat.add_mul] at this
                omega
              have hrw : (Blk.arr (.li 0) a len sh t0 (.own ie.size)).rw = true := rfl
              have hr0 := hrun _ _ (run_append_row w ht hie hs ho hroom hfit2)
              have hn := hf n (Nat.le_refl _)
              refine ⟨_, _, _, m.put n b (m.κ id), hr0, .inl rfl, ?_, ?_, Trans.move hg hrw hb hn (fun k hk => setRow_other w b k _ hk) (by simp) rfl rfl rfl, put_fresh hf⟩
              · simp only [DV.R, E.ev, Sc.int_I, Cap.den]
                refine ⟨b, by simp [Emb.put], ?_, by omega, by simp [Emb.put]; omega⟩
                have : ((addI len (.li k)).ev ρ).int.toNat = (len.ev ρ).int.toNat + k := by omega
                simp [Off.den, sumT, Emb.put, this]
              · refine hH.move hg hrw hb hn (setRow_heap w b c _ t' (0, 0) ho) ?_ (fun k hk => setRow_other w b k _ hk)
                have hsz : ((c.toList.take (0 + (len.ev ρ).int.toNat * ie.size) ++ vn ++ c.toList.drop (0 + (len.ev ρ).int.toNat * ie.size + vn.length)).toArray).size = c.size := by
                  simp only [List.size_toArray, List.length_append, List.length_take, List.length_drop, Array.length_toList]; omega
                refine cat_blk (hlen := hlen) (hk := hkk) (hn0 := h0) (hL := hL) (er := er) (kr := kr') (hvn := hvn2) (fun j v hj => ?_) (by rw [hsz]; exact hκ) ?_
                · rw [splice_get (by simpa using hfit2)]
                  rw [List.getElem?_append] at hj
                  rw [hshl] at hlen
                  split at hj
                  · rename_i hlt; rw [if_pos (by omega)]; exact hc j v hj
                  · rename_i hlt
                    have hlt2 := (List.getElem?_eq_some_iff.1 hj).1
                    rw [if_neg (by omega), if_pos (by omega)]
                    rw [show j - (0 + (len.ev ρ).int.toNat * ie.size) = j - (a.ev ρ).arr.length by omega]
                    exact hj
                · rw [hsz, List.length_append, hlen, hshl]; omega
            · have hold : (Builtin.firstCells ie.size (len.ev ρ).int.toNat (.slice (some ⟨b, 0, none⟩) (len.ev ρ).int.toNat (m.κ id))).run P w.drew = .ok ((a.ev ρ).arr).toArray w.drew := by
                refine run_firstCells_some w.drew ie.size _ _ _ _ _ (by rw [hlen, hshl]) fun j u hj => ?_
                rw [add_none, Nat.zero_add]
                have : w.drew.cell? ⟨b, j, none⟩ = w.cell? ⟨b, j, none⟩ := rfl
                rw [this, cell_at ho]
                exact hc j u hj
              have hL2 : ((addI len (.li k)).ev ρ).int = (((len.ev ρ).int.toNat : Nat) : Int) + k := by rw [hL, Int.toNat_of_nonneg h0]
              have := app_growB (h := h.set id .dead) (sLen := (len.ev ρ).int.toNat) (sCap := m.κ id) (L := addI len (.li k)) (B := .arr (.li 0) (.bi (.row .cat) a row) (addI len (.li k)) sh e (.own ie.size)) (hH.kill id) hf ht hie hz hzl hby hold
                (by rw [hlen, hshl]) hs (by omega) (by omega) (fun c hc g hg hsz => cat_blk hlen hkk h0 hL er kr' hvn2 hc hg hsz) hL2 hrun
              obtain ⟨nx, v, w', m', h1, h2, h3, h4, h5, h6⟩ := this
              exact ⟨nx, v, w', m', h1, h2, h3, h4, h5.kill, h6⟩
          · cases hd
        · cases hd
      · cases hd
    · cases hd
  · cases hd

theorem clearD_sound {m : Emb} {ρ : Env} {h : T Blk} {n : Nat} {w : World} (hH : HeapR m ρ h w) (hf : ∀ id, n ≤ id → m.ι id = none) {t ty e : TypeId} {rest : List TypeId} {ie : TypeInfo} {z : DV} (ht : P.underlying t = some (.slice e)) (hie : P.info? e = some ie) (hz : zeroD P e = some z)
    (hzl : z.cells.length = ie.size) (hzne : z.cells ≠ []) (hone : z.cells.all DV.one = true) {d : DV} {vd : Value} (hvd : d.R m ρ vd) {r : Out} (hd : clearD h n ie.size z.cells d = some r)
    {run : Result Next} (hrun : ∀ v w', (Builtin.clear_ (t :: rest).toArray ty #[vd]).run P w = .ok v w' → run = .ok (.value v) w') : OpOk m ρ h w run r := by
  obtain ⟨i, zv, hi, hzv, hr⟩ := zeroD_R hz m ρ
  rw [hie] at hi; cases hi
  have hzs : zv.cells.size = ie.size := by
    have := hr.cells.length; simp at this; omega
  have hzrun : (zeroValue e).run P w = .ok zv w := by simp [zeroValue, typeInfo, hie, hzv]
  have same : run = .ok (.value (.tuple #[])) w → OpOk m ρ h w run ⟨.tup [], h, n⟩ := fun hrn => ⟨_, _, w, m, hrn, .inl rfl, by simp [DV.R, DV.RL], hH, Trans.refl m h w, hf⟩
  have zero : ∀ {base : Option Addr} {c : Nat}, (Builtin.clear_ (t :: rest).toArray ty #[.slice base 0 c]).run P w = .ok (.tuple #[]) w := by
    intro base c
    cases base <;> simp [Builtin.clear_, run_underlying ht]
  unfold clearD at hd
  split at hd
  · cases hd
    simp only [DV.R] at hvd; subst hvd
    exact same (hrun _ _ zero)
  · cases hd
    simp only [DV.R] at hvd
    obtain ⟨a, c, rfl⟩ := hvd
    exact same (hrun _ _ zero)
  · rename_i id o a cap
    split at hd
    · rename_i l t0 md hterms hg
      split at hd
      · rename_i hcond
        cases hd
        obtain ⟨h0, hro, hfit⟩ := hcond
        simp only [DV.R, E.ev, Sc.int_I] at hvd
        obtain ⟨b, hb, rfl, _, _⟩ := hvd
        obtain ⟨b', ob, hb', ho, c, fr, ⟨t', rfl⟩, hle, hc, hmd⟩ := hH.blk id _ hg rfl
        rw [hb] at hb'; cases hb'
        have hden : o.den ρ = o.base := by simp [Off.den, hterms, sumT]
        have hfr := Md.fr_of hmd hro
        subst hfr
        have hrw : (Blk.cells l t0 md).rw = true := hro
        have hrow := rowD_R hr.cells hzne (a.toNat * ie.size)
        have hzc : (Builtin.zeroCells zv.cells a.toNat).toList = ((Array.range (a.toNat * ie.size)).map (zv.cells[· % zv.cells.size]!)).toList := by
          unfold Builtin.zeroCells; rw [hzs]
        rw [← hzc] at hrow
        generalize (Builtin.zeroCells zv.cells a.toNat).toList = vn at hrow hzc
        have hvl := hrow.length
        have hrl : (rowD (a.toNat * ie.size) z.cells).length = a.toNat * ie.size := by simp [rowD]
        have h1 : ∀ u ∈ vn, u.oneCell' = true := RL_one hrow (by
          rw [List.all_eq_true]
          intro x hx
          simp only [rowD, List.mem_map, List.mem_range] at hx
          obtain ⟨j, _, rfl⟩ := hx
          have hm : j % z.cells.length < z.cells.length := Nat.mod_lt _ (List.length_pos_iff.2 hzne)
          rw [List.getD_eq_getElem?_getD, List.getElem?_eq_getElem hm, Option.getD_some]
          exact (List.all_eq_true.1 hone) _ (List.getElem_mem hm))
        have hfit3 : o.den ρ + vn.length ≤ c.size := by rw [hvl, hrl, hden]; omega
        have hst := run_storeCells_at (P := P) b (o.den ρ) t' vn 0 c w ho (by simpa using hfit3) h1
        simp only [Nat.add_zero] at hst
        have hsz : ((c.toList.take (o.den ρ) ++ vn ++ c.toList.drop (o.den ρ + vn.length)).toArray).size = c.size := by
          simp only [List.size_toArray, List.length_append, List.length_take, List.length_drop, Array.length_toList]; omega
        have hsl : (setL l o.base (rowD (a.toNat * ie.size) z.cells)).length = l.length := by
          unfold setL; simp only [List.length_append, List.length_take, List.length_drop, hrl]; omega
        by_cases ha0 : a.toNat = 0
        · -- nothing is cleared
          have hv0 : vn = [] := List.length_eq_zero_iff.1 (by rw [hvl, hrl, ha0]; simp)
          have hr0 : rowD (a.toNat * ie.size) z.cells = [] := List.length_eq_zero_iff.1 (by rw [hrl, ha0]; simp)
          have hset : setL l o.base (rowD (a.toNat * ie.size) z.cells) = l := by rw [hr0]; simp [setL]
          rw [hset]
          have hz0 := hrun _ _ (by rw [ha0]; exact zero)
          exact ⟨_, _, w, m, hz0, .inl rfl, by simp [DV.R, DV.RL], hH.write hg hrw hb ho ⟨c, (0, 0), ⟨_, rfl⟩, hle, hc, hmd⟩ hro (fun _ _ => rfl), Trans.write hg hrw hb (fun _ _ => rfl) rfl rfl rfl rfl, hf⟩
        · have hrr : (Builtin.clear_ (t :: rest).toArray ty #[.slice (some ⟨b, o.den ρ, none⟩) a.toNat (cap.den m ρ id)]).run P w = .ok (.tuple #[]) (w.setRow b (c.toList.take (o.den ρ) ++ vn ++ c.toList.drop (o.den ρ + vn.length)).toArray) := by
            obtain ⟨k, hk⟩ : ∃ k, a.toNat = k + 1 := ⟨a.toNat - 1, by omega⟩
            have hzc' : (Builtin.zeroCells zv.cells a.toNat).toList = vn := by
              rw [hzc]; unfold Builtin.zeroCells; rw [hzs]
            rw [hk] at hzc' ⊢
            simp only [Builtin.clear_, List.getElem?_toArray, List.getElem?_cons_zero, Sem.run_bind, run_underlying ht, Result.andThen_ok, hzrun, hzc', hst, Sem.run_pure]
          refine ⟨_, _, _, m, hrun _ _ hrr, .inl rfl, by simp [DV.R, DV.RL], ?_, Trans.write hg hrw hb (fun k hk => setRow_other w b k _ hk) (by simp) rfl rfl rfl, hf⟩
          refine hH.write hg hrw hb (setRow_heap w b c _ t' (0, 0) ho) ⟨_, _, ⟨_, rfl⟩, by rw [hsz, hsl]; exact hle, fun j d hd => ?_, ?_⟩ hro (fun k hk => setRow_other w b k _ hk)
          · rw [splice_get hfit3, hden]
            rw [setL_get (by rw [hrl]; exact hfit)] at hd
            rw [hrl] at hd
            rw [hvl, hrl]
            split at hd
            · rename_i hj; rw [if_pos hj]; exact hc j d hd
            · rename_i hj
              rw [if_neg hj]
              split at hd
              · rename_i hj2
                obtain ⟨v, hv, hr⟩ := hrow.get hd
                rw [if_pos hj2]
                exact ⟨v, hv, hr⟩
              · rename_i hj2; rw [if_neg hj2]; exact hc j d hd
          · cases md with
            | ro => cases hro
            | gl g => cases hro
            | reg l => cases hro
            | rw => rfl
            | own s => exact ⟨rfl, by rw [hsz]; exact hmd.2⟩
      · cases hd
    · cases hd
  · cases hd

theorem memG_sound {m : Emb} {ρ : Env} (hF : F.ok ρ) {h : T Blk} {n : Nat} {t : T DV} {a : Act} {w : World} (hH : HeapR m ρ h w) (ht : TmpR m ρ t a) (hf : ∀ id, n ≤ id → m.ι id = none) {o : Oper} {r : Out}
    (hd : memG P F h n t o.op = some r) : OpOk m ρ h w ((execOp a.eval o).run P w) r := by
  obtain ⟨dst, op, type, pos, after, guard⟩ := o
  simp only at hd
  cases op <;> simp only [memG, reduceCtorEq] at hd
  case store ty x y =>
    split at hd
    · rename_i id of dx hp hx
      split at hd
      · rename_i h' hs
        cases hd
        obtain ⟨w', hrun, hH', hT⟩ := storeArr_sound hF hH hs (opd_R ht hp) (opd_R ht hx)
        refine ⟨.skip, undef, w', m, ?_, .inr ⟨rfl, rfl⟩, ?_, hH', hT, hf⟩
        · simp only [execOp, Sem.run_bind, hrun, Result.andThen_ok, Sem.run_pure]
        · simp [DV.R, DV.RL, undef]
      · cases hd
    · cases hd
  case call c =>
    obtain ⟨callee, args, argTypes⟩ := c
    simp only at hd
    split at hd
    · rename_i d0 d1 hargs
      have hA := opds_R ht hargs
      simp only [DV.RL] at hA
      obtain ⟨v0, vr, he, hR, v1, vr', rfl, hR1, rfl⟩ := hA
      have hmap : args.map a.eval = #[v0, v1] := Array.toList_inj.1 (by rw [Array.toList_map]; exact he)
      split at hd
      · rename_i ts tx rest hty
        split at hd
        · rename_i e hu
          split at hd
          · rename_i ie z hie hz
            split at hd
            · rename_i hcond
              split at hd
              · rename_i k news hnews
                obtain ⟨vn, hs, hvn, _⟩ := newsD_sound (P := P) hH hnews hR1
                refine appArr_sound (ty := type) hF hH hf hu hie hz hcond.2 hcond.1 hR hvn hs hd fun v w' hv => ?_
                have hAT : argTypes = (ts :: tx :: rest).toArray := by rw [← hty]
                have : (Builtin.append_ argTypes type #[v0, v1]) = Builtin.append_ #[ts, tx] type #[v0, v1] := by
                  rw [hAT]; rfl
                simp [execOp, resolve, hmap, invoke, builtin, this, hv]
              · cases hd
            · cases hd
          · cases hd
        · cases hd
      · cases hd
    · rename_i d0 hargs
      have hA := opds_R ht hargs
      simp only [DV.RL] at hA
      obtain ⟨v0, vr, he, hR, rfl⟩ := hA
      have hmap : args.map a.eval = #[v0] := Array.toList_inj.1 (by rw [Array.toList_map]; exact he)
      split at hd
      · rename_i ts rest hty
        split at hd
        · rename_i e hu
          split at hd
          · rename_i ie z hie hz
            split at hd
            · rename_i hcond
              refine clearD_sound (ty := type) (rest := rest) hH hf hu hie hz hcond.1 hcond.2.1 hcond.2.2 hR hd fun v w' hv => ?_
              have hAT : argTypes = (ts :: rest).toArray := by rw [← hty]
              rw [← hAT] at hv
              simp [execOp, resolve, hmap, invoke, builtin, hv]
            · cases hd
          · cases hd
        · cases hd
      · cases hd
    · cases hd

theorem memDG_sound {m : Emb} {ρ : Env} (hF : F.ok ρ) {h : T Blk} {n : Nat} {t : T DV} {a : Act} {w : World} (hH : HeapR m ρ h w) (ht : TmpR m ρ t a) (hf : ∀ id, n ≤ id → m.ι id = none) {o : Oper} {r : Out}
    (hd : memDG P F h n t o.op = some r) : OpOk m ρ h w ((execOp a.eval o).run P w) r := by
  unfold memDG at hd
  split at hd
  · rename_i r' h'; cases hd; exact memDF_sound hF hH ht hf h'
  · exact memG_sound hF hH ht hf hd

theorem cellM_ok {ρ : Env} (hF : F.ok ρ) {m : Emb} {k : Kd} {d : DV} {e : E} (h : cellM F k d = some e) {v : Value} (hv : d.R m ρ v) : ∃ u, (e.ev ρ).arr = [u] ∧ (k = .any ∨ u = v) ∧ k.ok u := by
  unfold cellM at h
  split at h
  · cases h; exact ⟨_, rfl, .inl rfl, trivial⟩
  · obtain ⟨h1, h2⟩ := cellE_ok hF h hv
    exact ⟨v, h1, .inr rfl, h2⟩

theorem rowM_ok {ρ : Env} (hF : F.ok ρ) {m : Emb} : ∀ {ks : List Kd} {ds : List DV} {e : E} {vs : List Value}, rowM F ks ds = some e → DV.RL m ρ ds vs →
    (e.ev ρ).arr.length = vs.length ∧ ∀ (i : Nat) (u : Value), (e.ev ρ).arr[i]? = some u → ∃ k, ks[i]? = some k ∧ (k = .any ∨ vs[i]? = some u) ∧ k.ok u
  | ks, [], e, vs, h, hv => by
    have : e = .un (.row .ofS) (.ls ByteArray.empty) := by cases ks <;> simpa [rowM] using h.symm
    subst this
    simp only [DV.RL] at hv; subst hv
    have : ((E.un (.row .ofS) (.ls ByteArray.empty)).ev ρ).arr = [] := rfl
    rw [this]
    exact ⟨rfl, fun i u hu => by simp at hu⟩
  | [], d :: ds, e, vs, h, _ => by cases ds <;> simp [rowM] at h
  | k :: ks, [d], e, vs, h, hv => by
    simp only [rowM] at h
    simp only [DV.RL] at hv
    obtain ⟨v, vr, rfl, h1, rfl⟩ := hv
    obtain ⟨u, g1, g2, g3⟩ := cellM_ok hF h h1
    rw [g1]
    refine ⟨rfl, fun i x hx => ?_⟩
    cases i with
    | zero => simp at hx; subst hx; exact ⟨k, rfl, g2.imp id (fun e => by rw [e]; rfl), g3⟩
    | succ i => simp at hx
  | k :: ks, d :: d2 :: ds, e, vs, h, hv => by
    simp only [rowM] at h
    split at h
    · rename_i a b ha hb
      cases h
      simp only [DV.RL] at hv
      obtain ⟨v, vr, rfl, h1, h2⟩ := hv
      obtain ⟨u, g1, g2, g3⟩ := cellM_ok hF ha h1
      obtain ⟨q1, q2⟩ := rowM_ok hF hb (vs := vr) (by simp only [DV.RL]; exact h2)
      have hcat : ((E.bi (.row .cat) a b).ev ρ).arr = u :: (b.ev ρ).arr := by simp only [E.ev, B2.ev, RB.ev, Sc.arr_A, g1, List.singleton_append]
      rw [hcat]
      refine ⟨by simp [q1], fun i x hx => ?_⟩
      cases i with
      | zero => simp at hx; subst hx; exact ⟨k, rfl, g2.imp id (fun e => by rw [e]; rfl), g3⟩
      | succ i => simpa using q2 i x (by simpa using hx)
    · cases h

theorem asRow_rw (T B : Blk) : (asRow F T B).rw = B.rw ∧ (asRow F T B).live = B.live := by
  unfold asRow
  split
  · split
    · split <;> exact ⟨rfl, rfl⟩
    · exact ⟨rfl, rfl⟩
  · split
    · split <;> exact ⟨rfl, rfl⟩
    · exact ⟨rfl, rfl⟩
  · exact ⟨rfl, rfl⟩

theorem asRow_ok {m : Emb} {ρ : Env} (hF : F.ok ρ) {T B : Blk} {k : Nat} {o : Obj} (h : B.R m ρ k o) : (asRow F T B).R m ρ k o ∧ (asRow F T B).rw = B.rw ∧ (asRow F T B).live = B.live := by
  unfold asRow
  split
  · rename_i p x1 x2 sh s x3 x4 l t md
    generalize (l.length - p.length - s.length) / sh.length = q
    split
    · rename_i row hrow
      split
      · rename_i hcond
        refine ⟨?_, rfl, rfl⟩
        obtain ⟨c, fr, ho, hle, hc, hmd⟩ := h
        have hseg : DV.RL m ρ ((l.drop p.length).take (q * sh.length)) ((c.toList.drop p.length).take (q * sh.length)) := cells_seg hc hle (by omega)
        obtain ⟨er, kr⟩ := rowM_ok hF hrow hseg
        have hcl : ((c.toList.drop p.length).take (q * sh.length)).length = q * sh.length := by simp; omega
        rw [hcl] at er
        have htp : (l.take p.length).length = p.length := by simp; omega
        refine ⟨c, fr, ho, by rw [er]; rfl, ?_, fun i d hd => ?_, fun i v hi => ?_, fun i v hi => ?_, fun i d hd => ?_, hmd⟩
        · rw [er, htp, List.length_drop]; omega
        · rw [List.getElem?_take] at hd
          split at hd
          · exact hc i d hd
          · cases hd
        · obtain ⟨kk, h1, h2, h3⟩ := kr i v hi
          have := cyc_get h1
          rw [htp]
          rcases h2 with h2 | h2
          · rw [← this]; exact .inl h2
          · refine .inr ?_
            rw [List.getElem?_take] at h2
            split at h2
            · rw [List.getElem?_drop] at h2; simpa using h2
            · cases h2
        · obtain ⟨kk, h1, h2, h3⟩ := kr i v hi
          rw [← cyc_get h1]; exact h3
        · rw [List.getElem?_drop] at hd
          rw [htp, er]
          exact hc _ d hd
      · exact ⟨h, rfl, rfl⟩
    · exact ⟨h, rfl, rfl⟩
  · rename_i sh l t md
    split
    · rename_i row hrow
      split
      · rename_i hcond
        obtain ⟨h0, hl⟩ := hcond
        refine ⟨?_, rfl, rfl⟩
        obtain ⟨c, fr, ho, hle, hc, hmd⟩ := h
        have hseg : DV.RL m ρ l (c.toList.take l.length) := by
          refine DV.RL.of_get (by simp; omega) fun i d hd => ?_
          obtain ⟨v, hv, hr⟩ := hc i d hd
          refine ⟨v, ?_, hr⟩
          rw [List.getElem?_take, if_pos (List.getElem?_eq_some_iff.1 hd).1]
          simpa using hv
        obtain ⟨er, kr⟩ := rowE_ok hF hrow hseg
        refine ⟨c, fr, ho, ?_, ?_, fun i v hi => ?_, fun i v hi => ?_, hmd⟩
        · rw [er]
          simp only [E.ev, Sc.int_I, Int.toNat_natCast, List.length_take, Array.length_toList]
          omega
        · rw [er]; simp [E.ev]
          omega
        · rw [er, List.getElem?_take] at hi
          split at hi
          · simpa [E.ev] using hi
          · cases hi
        · rw [er] at hi
          obtain ⟨kk, h1, h2⟩ := kr i v hi
          rw [cyc_get h1] at h2
          exact h2
      · exact ⟨h, rfl, rfl⟩
    · exact ⟨h, rfl, rfl⟩
  · exact ⟨h, rfl, rfl⟩
end
end Go.Eng
