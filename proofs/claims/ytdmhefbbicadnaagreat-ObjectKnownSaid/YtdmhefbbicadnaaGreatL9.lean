import Derived.Test.YtdmhefbbicadnaaGreatL8
/-! The lifted logic, part 9: an operation of a region, by its kind. -/
namespace Go.Lift

def ev1 (e : Env) (x : Operand) (K : Value → Prop) : Prop :=
  match aeval e x with
  | some v => K v
  | none => False

theorem ev1_sound {e : Env} {x : Operand} {K : Value → Prop} {φ : Phi} {a : Act} (h : ev1 e x K) (ha : ARel φ e a) : ∃ v, K v ∧ VR φ v (a.eval x) := by
  unfold ev1 at h
  split at h
  · exact ⟨_, h, ha.eval (by assumption)⟩
  · exact h.elim

def evO (e : Env) (x : Option Operand) (K : Option Value → Prop) : Prop :=
  match x with
  | none => K none
  | some x => ev1 e x fun v => K (some v)

theorem evO_sound {e : Env} {x : Option Operand} {K : Option Value → Prop} {φ : Phi} {a : Act} (h : evO e x K) (ha : ARel φ e a) :
    ∃ v, K v ∧ (∀ u, v = some u → ∃ u', x.map a.eval = some u' ∧ VR φ u u') ∧ (v = none → x.map a.eval = none) := by
  cases x with
  | none => exact ⟨none, h, (fun u hu => by cases hu), fun _ => rfl⟩
  | some x =>
    obtain ⟨v, k, r⟩ := ev1_sound h ha
    exact ⟨some v, k, (fun u hu => ⟨_, rfl, (Option.some.inj hu) ▸ r⟩), fun hu => by cases hu⟩

def evL (e : Env) : List Operand → (List Value → Prop) → Prop
  | [], K => K []
  | x :: xs, K => ev1 e x fun v => evL e xs fun vs => K (v :: vs)

theorem evL_sound {e : Env} {φ : Phi} {a : Act} (ha : ARel φ e a) : ∀ {xs : List Operand} {K : List Value → Prop}, evL e xs K → ∃ vs, K vs ∧ VRs φ vs (xs.map a.eval)
  | [], _, h => ⟨[], h, .nil⟩
  | x :: xs, K, h => by
    obtain ⟨v, k, r⟩ := ev1_sound (K := fun v => evL e xs fun vs => K (v :: vs)) h ha
    obtain ⟨vs, k2, r2⟩ := evL_sound (K := fun vs => K (v :: vs)) ha k
    exact ⟨v :: vs, k2, .cons r r2⟩

inductive Cls where
  | a | r | w | c | p | x

/-- The kind of an operation: it asks no memory; it reads; it writes or makes; it calls; it panics. -/
def cls (P : Program) (o : Oper) : Cls :=
  match o.op with
  | .move _ | .assign _ | .pick .. | .build .. | .nilCheck _ | .binOp .. | .unOp .. | .makeInterface .. | .makeFunc .. | .fieldAddr .. | .field .. | .indexAddr .. | .index .. | .extract .. | .typeAssert .. => .a
  | .load .. | .slice .. | .lookup .. => .r
  | .convert s d _ => (match P.underlying s, P.underlying d with
    | some (.slice _), some .string => .r
    | some .string, some (.slice _) => .w
    | some (.slice _), some (.slice _) => .w
    | _, _ => .a)
  | .alloc _ | .box .. | .buildSlice .. | .store .. | .makeMap .. | .makeSlice .. | .mapUpdate .. | .insert .. => .w
  | .call c => (match c.callee with
    | .builtin .len => (match c.argTypes.toList with
      | [t] => (match P.underlying t with | some (.map _ _) => .r | _ => .a)
      | _ => .x)
    | .builtin .cap | .builtin .min | .builtin .max => .a
    | .builtin .append => .w
    | .value _ => .c
    | _ => .x)
  | .panic _ => .p
  | _ => .x

/-! ### Kind a -/

def alenA (P : Program) (t : TypeId) (x : Value) (K : Value → Prop) : Prop :=
  match x with
  | .slice _ l _ => (match P.underlying t with | some (.slice _) => K (.int .i64 l) | _ => False)
  | .string s => (match P.underlying t with | some .string => K (.int .i64 s.size) | _ => False)
  | _ => False

def acvA (P : Program) (s d : TypeId) (x : Value) (K : Value → Prop) : Prop :=
  match x with
  | .int _ n => (match P.underlying s, P.underlying d with
    | some (.int _), some (.int k) => K (.int k (k.wrap n))
    | _, _ => False)
  | .string st => (match P.underlying s, P.underlying d with
    | some .string, some .string => K (.string st)
    | _, _ => False)
  | _ => False

def anil (v : Value) (K : Value → Prop) : Prop :=
  match v with
  | .pointer (some ad) => K (.pointer (some ad))
  | .func (.func f) x y => K (.func (.func f) x y)
  | .iface t u => K (.iface t u)
  | _ => False

def apick (e : Env) (t : Value) (x y : Operand) (K : Value → Prop) : Prop :=
  match t with
  | .bool true => ev1 e x K
  | .bool false => ev1 e y K
  | _ => False

def lopA (P : Program) (e : Env) (o : Oper) (K : Value → Prop) : Prop :=
  match o.op with
  | .move x | .assign x => ev1 e x K
  | .pick c x y => ev1 e c fun t => apick e t x y K
  | .build t ps => (match avals (aeval e) ps.toList with
    | some l => abuild P t l K
    | none => False)
  | .nilCheck x => ev1 e x fun v => anil v K
  | .binOp op t x y _ => ev1 e x fun v => ev1 e y fun u => abin P (isC x || isC y) op t v u K
  | .unOp op _ x => ev1 e x fun v => aun op v K
  | .makeInterface t x => ev1 e x fun v => amakeInterface P t v K
  | .makeFunc fn x y => (match fn with
    | .func f => evL e x.toList fun l => evL e y.toList fun m => K (.func (.func f) l.toArray m.toArray)
    | _ => False)
  | .fieldAddr s x i => ev1 e x fun v => afieldAddr P s v i K
  | .field t x i => ev1 e x fun v => afield P t v i K
  | .indexAddr t x i => ev1 e x fun v => ev1 e i fun u => aindexAddr P t v u K
  | .index t x i => ev1 e x fun v => ev1 e i fun u => aindex P t v u K
  | .extract x i => ev1 e x fun v => aextract v i K
  | .typeAssert x _ t ok => ev1 e x fun v => atypeAssert P t v ok K
  | .convert s d x => ev1 e x fun v => acvA P s d v K
  | .call c => (match c.callee, c.args.toList, c.argTypes.toList with
    | .builtin .len, [x], [t] => ev1 e x fun v => alenA P t v K
    | .builtin .cap, [x], [t] => ev1 e x fun v => acap P t v K
    | .builtin .min, [x, y], _ => ev1 e x fun v => ev1 e y fun u => amin v u K
    | .builtin .max, [x, y], _ => ev1 e x fun v => ev1 e y fun u => amax v u K
    | _, _, _ => False)
  | _ => False

theorem run_v {P : Program} {s : Sem Value} {u : Value} {w w' : World} (h : s.run P w = .ok u w') : ((do pure (Next.value (← s))) : Sem Next).run P w = .ok (.value u) w' := by
  rw [Sem.run_bind, h]
  rfl

theorem run_u {P : Program} {s : Sem Unit} {w w' : World} (h : s.run P w = .ok () w') : ((do s; pure Next.skip) : Sem Next).run P w = .ok .skip w' := by
  rw [Sem.run_bind, h]
  rfl

theorem run_builtin {P : Program} {ρ : Operand → Value} {c : Call} {b : Builtin} {t : TypeId} {w : World} {r : Result Next} (hc : c.callee = .builtin b)
    (h : (builtin b c.argTypes t (c.args.map fun | .const _ => true | _ => false) (c.args.map ρ)).run P w = r) :
    (do let d ← resolve ρ c t; invoke d.target d.args).run P w = r := by
  unfold resolve
  rw [hc]
  exact h

theorem toArr_of_list {α : Type} {x : Array α} {l : List α} (h : x.toList = l) : x = l.toArray := by rw [← h]

theorem lopA_sound {P : Program} {e : Env} {o : Oper} {K : Value → Prop} {φ : Phi} {a : Act} (h : lopA P e o K) (ha : ARel φ e a) :
    ∃ u u', (∀ w, (execOp a.eval o).run P w = .ok (.value u') w) ∧ K u ∧ VR φ u u' := by
  unfold lopA at h
  obtain ⟨dst, op, type, pos, after, guard⟩ := o
  split at h <;> (try rename_i heq; simp only at heq; subst heq)
  case h_1 x => obtain ⟨v, k, r⟩ := ev1_sound h ha; exact ⟨v, _, fun _ => rfl, k, r⟩
  case h_2 x => obtain ⟨v, k, r⟩ := ev1_sound h ha; exact ⟨v, _, fun _ => rfl, k, r⟩
  case h_3 c x y =>
    obtain ⟨t, k, r⟩ := ev1_sound h ha
    unfold apick at k
    split at k
    · obtain ⟨v, k, r2⟩ := ev1_sound k ha
      generalize hc : a.eval c = t' at r
      cases r
      exact ⟨v, _, fun w => by simp [execOp, hc, asBool], k, r2⟩
    · obtain ⟨v, k, r2⟩ := ev1_sound k ha
      generalize hc : a.eval c = t' at r
      cases r
      exact ⟨v, _, fun w => by simp [execOp, hc, asBool], k, r2⟩
    · exact k.elim
  case h_4 t ps =>
    split at h
    · rename_i l hl
      obtain ⟨h1, h2⟩ := avals_sound ha hl
      obtain ⟨u, u', g1, g2, g3⟩ := abuild_sound (φ := φ) (parts' := ps.map fun (i, x) => (i, a.eval x)) h (by simpa using h1) (by simpa using h2)
      exact ⟨u, u', fun w => run_v (g1 w), g2, g3⟩
    · exact h.elim
  case h_5 x =>
    obtain ⟨v, k, r⟩ := ev1_sound h ha
    generalize hx : a.eval x = v' at r
    unfold anil at k
    split at k
    · refine ⟨_, v', fun w => ?_, k, r⟩
      cases r
      simp [execOp, hx]
    · refine ⟨_, v', fun w => ?_, k, r⟩
      cases r
      simp [execOp, hx]
    · refine ⟨_, v', fun w => ?_, k, r⟩
      cases r
      simp [execOp, hx]
    · exact k.elim
  case h_6 op t x y yt =>
    obtain ⟨v, k, r⟩ := ev1_sound h ha
    obtain ⟨u, k, r2⟩ := ev1_sound k ha
    obtain ⟨z, z', g1, g2, g3⟩ := abin_sound (ox := x) (oy := y) k (fun hc => by simpa using hc) r r2
    exact ⟨z, z', fun w => run_v (g1 w), g2, g3⟩
  case h_7 op t x =>
    obtain ⟨v, k, r⟩ := ev1_sound h ha
    obtain ⟨z, z', g1, g2, g3⟩ := aun_sound (P := P) k r
    exact ⟨z, z', fun w => run_v (g1 w), g2, g3⟩
  case h_8 t x =>
    obtain ⟨v, k, r⟩ := ev1_sound h ha
    obtain ⟨z, z', g1, g2, g3⟩ := amakeInterface_sound k r
    exact ⟨z, z', fun w => run_v (g1 w), g2, g3⟩
  case h_9 fn x y =>
    split at h
    · rename_i f
      obtain ⟨l, k, r⟩ := evL_sound (K := fun l => evL e y.toList fun m => K (.func (.func f) l.toArray m.toArray)) ha h
      obtain ⟨m, k, r2⟩ := evL_sound (K := fun m => K (.func (.func f) l.toArray m.toArray)) ha k
      refine ⟨_, .func (.func f) (x.map a.eval) (y.map a.eval), fun w => rfl, k, ?_⟩
      have q1 : VRs φ l.toArray.toList (x.map a.eval).toList := by simpa using r
      have q2 : VRs φ m.toArray.toList (y.map a.eval).toList := by simpa using r2
      exact .func f _ _ _ _ q1.to_arr.1 q2.to_arr.1 q1.to_arr.2 q2.to_arr.2
    · exact h.elim
  case h_10 s x i =>
    obtain ⟨v, k, r⟩ := ev1_sound h ha
    obtain ⟨z, z', g1, g2, g3⟩ := afieldAddr_sound k r
    exact ⟨z, z', fun w => run_v (g1 w), g2, g3⟩
  case h_11 t x i =>
    obtain ⟨v, k, r⟩ := ev1_sound h ha
    obtain ⟨z, z', g1, g2, g3⟩ := afield_sound k r
    exact ⟨z, z', fun w => run_v (g1 w), g2, g3⟩
  case h_12 t x i =>
    obtain ⟨v, k, r⟩ := ev1_sound h ha
    obtain ⟨u, k, r2⟩ := ev1_sound k ha
    obtain ⟨z, z', g1, g2, g3⟩ := aindexAddr_sound k r r2
    exact ⟨z, z', fun w => run_v (g1 w), g2, g3⟩
  case h_13 t x i =>
    obtain ⟨v, k, r⟩ := ev1_sound h ha
    obtain ⟨u, k, r2⟩ := ev1_sound k ha
    obtain ⟨z, z', g1, g2, g3⟩ := aindex_sound k r r2
    exact ⟨z, z', fun w => run_v (g1 w), g2, g3⟩
  case h_14 x i =>
    obtain ⟨v, k, r⟩ := ev1_sound h ha
    obtain ⟨z, z', g1, g2, g3⟩ := aextract_sound (P := P) k r
    exact ⟨z, z', fun w => run_v (g1 w), g2, g3⟩
  case h_15 x xt t ok =>
    obtain ⟨v, k, r⟩ := ev1_sound h ha
    obtain ⟨z, z', g1, g2, g3⟩ := atypeAssert_sound (xt := xt) k r
    exact ⟨z, z', fun w => run_v (g1 w), g2, g3⟩
  case h_16 s d x =>
    obtain ⟨v, k, r⟩ := ev1_sound h ha
    generalize hx : a.eval x = v' at r
    unfold acvA at k
    split at k
    · split at k
      · rename_i hs hd
        cases r
        exact ⟨_, _, fun w => by simp [execOp, hx, convert, run_underlying_some hs, run_underlying_some hd, Conv.intToInt], k, .int _ _⟩
      · exact k.elim
    · split at k
      · rename_i hs hd
        cases r
        exact ⟨_, _, fun w => by simp [execOp, hx, convert, run_underlying_some hs, run_underlying_some hd], k, .string _⟩
      · exact k.elim
    · exact k.elim
  case h_17 c =>
    split at h
    · rename_i x t hc hx ht
      obtain ⟨v, k, r⟩ := ev1_sound h ha
      have hx := toArr_of_list hx
      have ht := toArr_of_list ht
      generalize hv : a.eval x = v' at r
      unfold alenA at k
      split at k
      · split at k
        · rename_i el hu
          refine ⟨_, _, fun w => run_builtin hc ?_, k, .int _ _⟩
          rw [hx, ht]
          cases r <;> simp [builtin, hv, Builtin.len_, run_underlying_some hu, goInt]
        · exact k.elim
      · split at k
        · rename_i hu
          cases r
          refine ⟨_, _, fun w => run_builtin hc ?_, k, .int _ _⟩
          rw [hx, ht]
          simp [builtin, hv, Builtin.len_, run_underlying_some hu, goInt]
        · exact k.elim
      · exact k.elim
    · rename_i x t hc hx ht
      obtain ⟨v, k, r⟩ := ev1_sound h ha
      have hx := toArr_of_list hx
      have ht := toArr_of_list ht
      obtain ⟨z, z', g1, g2, g3⟩ := acap_sound (rest := type) k r
      refine ⟨z, z', fun w => run_builtin hc ?_, g2, g3⟩
      rw [hx, ht]
      simp [builtin, g1]
    · rename_i x y ts hc hx
      obtain ⟨v, k, r⟩ := ev1_sound h ha
      obtain ⟨u, k, r2⟩ := ev1_sound k ha
      have hx := toArr_of_list hx
      obtain ⟨z, z', g1, g2, g3⟩ := amin_sound (P := P) (ts := c.argTypes) (rest := type) k r r2
      refine ⟨z, z', fun w => run_builtin hc ?_, g2, g3⟩
      rw [hx]
      simp [builtin, g1]
    · rename_i x y ts hc hx
      obtain ⟨v, k, r⟩ := ev1_sound h ha
      obtain ⟨u, k, r2⟩ := ev1_sound k ha
      have hx := toArr_of_list hx
      obtain ⟨z, z', g1, g2, g3⟩ := amax_sound (P := P) (ts := c.argTypes) (rest := type) k r r2
      refine ⟨z, z', fun w => run_builtin hc ?_, g2, g3⟩
      rw [hx]
      simp [builtin, g1]
    · exact h.elim
  case h_18 => exact h.elim

end Go.Lift
