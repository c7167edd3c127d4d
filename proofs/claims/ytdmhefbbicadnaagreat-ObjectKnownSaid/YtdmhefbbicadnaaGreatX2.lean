import Derived.Test.YtdmhefbbicadnaaGreatX1
/-! The evaluator, part 2: one operation. -/
namespace Go.Lift

section
variable {R : Type}

def xev1 (E : Tr Value) (x : Operand) (K : Value → Option R) : Option R :=
  match xeval E x with
  | some v => K v
  | none => none

def xevO (E : Tr Value) (x : Option Operand) (K : Option Value → Option R) : Option R :=
  match x with
  | none => K none
  | some x => xev1 E x fun v => K (some v)

def xevL (E : Tr Value) : List Operand → (List Value → Option R) → Option R
  | [], K => K []
  | x :: xs, K => xev1 E x fun v => xevL E xs fun vs => K (v :: vs)

def xlenA (P : Program) (t : TypeId) (x : Value) (K : Value → Option R) : Option R :=
  match x with
  | .slice _ l _ => (match P.underlying t with | some (.slice _) => K (.int .i64 l) | _ => none)
  | .string s => (match P.underlying t with | some .string => K (.int .i64 s.size) | _ => none)
  | _ => none

def xcvA (P : Program) (s d : TypeId) (x : Value) (K : Value → Option R) : Option R :=
  match x with
  | .int _ n => (match P.underlying s, P.underlying d with
    | some (.int _), some (.int k) => K (.int k (k.wrap n))
    | _, _ => none)
  | .string st => (match P.underlying s, P.underlying d with
    | some .string, some .string => K (.string st)
    | _, _ => none)
  | _ => none

def xnil (v : Value) (K : Value → Option R) : Option R :=
  match v with
  | .pointer (some ad) => K (.pointer (some ad))
  | .func (.func f) x y => K (.func (.func f) x y)
  | .iface t u => K (.iface t u)
  | _ => none

def xpick (E : Tr Value) (t : Value) (x y : Operand) (K : Value → Option R) : Option R :=
  match t with
  | .bool true => xev1 E x K
  | .bool false => xev1 E y K
  | _ => none

def xlopA (P : Program) (E : Tr Value) (o : Oper) (K : Value → Option R) : Option R :=
  match o.op with
  | .move x | .assign x => xev1 E x K
  | .pick c x y => xev1 E c fun t => xpick E t x y K
  | .build t ps => (match avals (xeval E) ps.toList with
    | some l => xbuild P t l K
    | none => none)
  | .nilCheck x => xev1 E x fun v => xnil v K
  | .binOp op t x y _ => xev1 E x fun v => xev1 E y fun u => xbin P (isC x || isC y) op t v u K
  | .unOp op _ x => xev1 E x fun v => xun op v K
  | .makeInterface t x => xev1 E x fun v => xmakeInterface P t v K
  | .makeFunc fn x y => (match fn with
    | .func f => xevL E x.toList fun l => xevL E y.toList fun m => K (.func (.func f) l.toArray m.toArray)
    | _ => none)
  | .fieldAddr s x i => xev1 E x fun v => xfieldAddr P s v i K
  | .field t x i => xev1 E x fun v => xfield P t v i K
  | .indexAddr t x i => xev1 E x fun v => xev1 E i fun u => xindexAddr P t v u K
  | .index t x i => xev1 E x fun v => xev1 E i fun u => xindex P t v u K
  | .extract x i => xev1 E x fun v => xextract v i K
  | .typeAssert x _ t ok => xev1 E x fun v => xtypeAssert P t v ok K
  | .convert s d x => xev1 E x fun v => xcvA P s d v K
  | .call c => (match c.callee, c.args.toList, c.argTypes.toList with
    | .builtin .len, [x], [t] => xev1 E x fun v => xlenA P t v K
    | .builtin .cap, [x], [t] => xev1 E x fun v => xcap P t v K
    | .builtin .min, [x, y], _ => xev1 E x fun v => xev1 E y fun u => xmin v u K
    | .builtin .max, [x, y], _ => xev1 E x fun v => xev1 E y fun u => xmax v u K
    | _, _, _ => none)
  | _ => none

def xstrSlice (s : ByteArray) (lo hi mx : Option Value) (K : Value → Option R) : Option R :=
  match mx with
  | none => xbnd hi s.size s.size fun h => xbnd lo 0 h fun j => K (.string (s.extract j h))
  | some _ => none

def xslice (P : Program) (T : VS) (t : TypeId) (x : Value) (lo hi mx : Option Value) (K : Value → Option R) : Option R :=
  match x with
  | .slice a l c => xsliceS P T t a l c lo hi mx K
  | .string s => (match P.underlying t with | some .string => xstrSlice s lo hi mx K | _ => none)
  | _ => none

def xcvR (P : Program) (s d : TypeId) (x : Value) (T : VS) (K : Value → Option R) : Option R :=
  match P.underlying s, P.underlying d with
  | some (.slice e), some .string => (match x, P.underlying e with
    | .slice a l c, some (.int .u8) => xsliceC T 1 (.slice a l c) fun _ xs => (match bytesL xs with
      | some bs => K (.string ⟨bs.toArray⟩)
      | none => none)
    | _, _ => none)
  | _, _ => none

def xlenR (x : Value) (T : VS) (K : Value → Option R) : Option R :=
  match x with
  | .map none => K (.int .i64 0)
  | .map (some b) => (match T.get b with | some (.map m) => K (.int .i64 m.length) | _ => none)
  | _ => none

def xlopR (P : Program) (E : Tr Value) (o : Oper) (T : VS) (K : Value → Option R) : Option R :=
  match o.op with
  | .load t x => xev1 E x fun v => xload P t v T K
  | .slice t x lo hi mx => xev1 E x fun v => xevO E lo fun lo => xevO E hi fun hi => xevO E mx fun mx => xslice P T t v lo hi mx K
  | .lookup t x k ok => xev1 E x fun v => xev1 E k fun u => xlookup P t v u ok T fun r => xshp P o.type r K
  | .convert s d x => xev1 E x fun v => xcvR P s d v T K
  | .call c => (match c.callee, c.args.toList, c.argTypes.toList with
    | .builtin .len, [x], [t] => (match P.underlying t with | some (.map _ _) => xev1 E x fun v => xlenR v T K | _ => none)
    | _, _, _ => none)
  | _ => none

def xappend (P : Program) (sT xT : TypeId) (s x : Value) (T : VS) (K : Value → VS → Option R) : Option R :=
  match P.underlying sT, P.underlying xT with
  | some (.slice e), some (.slice _) | some (.slice e), some .string => (match elemO P e with
    | some (es, bytes, _) => xsliceC T es x fun n xs => if xs.all (·.oneCell') = true then xapp T es bytes s n xs K else none
    | none => none)
  | some (.slice e), some (.int _) => (match elemO P e, x with
    | some (es, bytes, zc), .int _ m => if 0 ≤ m ∧ m ≤ 2 ^ 47 ∧ m.toNat * bytes ≤ 2 ^ 48 ∧ (zrow zc m.toNat).all (·.oneCell') = true then xapp T es bytes s m.toNat (zrow zc m.toNat) K else none
    | _, _ => none)
  | _, _ => none

def xlopW (P : Program) (E : Tr Value) (o : Oper) (T : VS) (K : Value → VS → Option R) : Option R :=
  match o.op with
  | .alloc t => (match zeroOf P t with
    | some z => xnew z T K
    | none => none)
  | .box _ x => xev1 E x fun v => xnew v T K
  | .buildSlice t n ps => (match avals (xeval E) ps.toList with
    | some l => xbuildSlice P t n l T K
    | none => none)
  | .store t x y => xev1 E x fun v => xev1 E y fun u => xstore P t v u T fun T' => K undef T'
  | .makeMap _ none => K (.map (some T.next)) (T.alloc (.map []))
  | .makeSlice t l c => xev1 E l fun v => xev1 E c fun u => xmakeSlice P t v u T K
  | .mapUpdate t m k x | .insert t m k x => xev1 E m fun v => xev1 E k fun u => xev1 E x fun z => xmapUpdate P t v u z T fun T' => K undef T'
  | .convert s d x => xev1 E x fun v => xconvert P s d v T K
  | .call c => (match c.callee, c.args.toList, c.argTypes.toList with
    | .builtin .append, [x, y], [s, t] => xev1 E x fun v => xev1 E y fun u => xappend P s t v u T K
    | _, _, _ => none)
  | _ => none

/-- The operations that call no function. -/
def xop (P : Program) (E : Tr Value) (o : Oper) (T : VS) (K : Value → VS → Option R) : Option R :=
  match cls P o with
  | .a => xlopA P E o fun v => K v T
  | .r => xlopR P E o T fun v => K v T
  | .w => xlopW P E o T K
  | _ => none
end

section
variable {N : Nat} {R : Type} {r : R} {P : Program} {E : Tr Value} {K : Value → Option R} {K' : Value → Prop} {T : VS} {G : Value → VS → Option R} {G' : Value → Heap → Prop}

theorem xev1_s {x : Operand} (h : xev1 E x K = some r) (hk : ∀ u, K u = some r → K' u) : ev1 (eden N E) x K' := by
  unfold xev1 at h; unfold ev1
  rw [xeval_eq]
  split at h
  · rename_i heq
    rw [heq]
    exact hk _ h
  · cases h

theorem xevO_s {x : Option Operand} {K : Option Value → Option R} {K' : Option Value → Prop} (h : xevO E x K = some r) (hk : ∀ u, K u = some r → K' u) : evO (eden N E) x K' := by
  cases x with
  | none => exact hk _ h
  | some x => exact xev1_s (K := fun v => K (some v)) h fun u hu => hk _ hu

theorem xevL_s : ∀ {xs : List Operand} {K : List Value → Option R} {K' : List Value → Prop} (_ : xevL E xs K = some r) (_ : ∀ u, K u = some r → K' u), evL (eden N E) xs K'
  | [], _, _, h, hk => hk _ h
  | _ :: xs, K, _, h, hk => xev1_s (K := fun v => xevL E xs fun vs => K (v :: vs)) h fun _ hv => xevL_s hv fun _ h => hk _ h

theorem xavals : avals (aeval (eden N E)) = avals (xeval E) := by
  have : aeval (eden N E) = xeval E := funext fun x => xeval_eq N E x
  rw [this]

theorem xlenA_s {t : TypeId} {x : Value} (h : xlenA P t x K = some r) (hk : ∀ u, K u = some r → K' u) : alenA P t x K' := by
  unfold xlenA at h; unfold alenA
  repeat' (split at h <;> try (cases h; done))
  all_goals simp_all

theorem xcvA_s {s d : TypeId} {x : Value} (h : xcvA P s d x K = some r) (hk : ∀ u, K u = some r → K' u) : acvA P s d x K' := by
  unfold xcvA at h; unfold acvA
  repeat' (split at h <;> try (cases h; done))
  all_goals simp_all

theorem xnil_s {v : Value} (h : xnil v K = some r) (hk : ∀ u, K u = some r → K' u) : anil v K' := by
  unfold xnil at h; unfold anil
  repeat' (split at h <;> try (cases h; done))
  all_goals simp_all

theorem xpick_s {t : Value} {x y : Operand} (h : xpick E t x y K = some r) (hk : ∀ u, K u = some r → K' u) : apick (eden N E) t x y K' := by
  unfold xpick at h; unfold apick
  split at h
  · exact xev1_s h hk
  · exact xev1_s h hk
  · cases h

theorem xlopA_s {o : Oper} (h : xlopA P E o K = some r) (hk : ∀ u, K u = some r → K' u) : lopA P (eden N E) o K' := by
  unfold xlopA at h; unfold lopA
  obtain ⟨dst, op, type, pos, after, guard⟩ := o
  simp only at h ⊢
  cases op <;> simp only at h ⊢
  case move x => exact xev1_s h hk
  case assign x => exact xev1_s h hk
  case pick c x y => exact xev1_s h fun t h => xpick_s h hk
  case build t ps =>
    rw [xavals]
    split at h
    · rename_i h1
      simp only [h1]
      exact xbuild_s h hk
    · cases h
  case nilCheck x => exact xev1_s h fun v h => xnil_s h hk
  case binOp op t x y z => exact xev1_s h fun v h => xev1_s h fun u h => xbin_s h hk
  case unOp op t x => exact xev1_s h fun v h => xun_s h hk
  case makeInterface t x => exact xev1_s h fun v h => xmakeInterface_s h hk
  case makeFunc fn x y =>
    split at h
    · exact xevL_s h fun v h => xevL_s h fun u h => hk _ h
    · cases h
  case fieldAddr s x i => exact xev1_s h fun v h => xfieldAddr_s h hk
  case field t x i => exact xev1_s h fun v h => xfield_s h hk
  case indexAddr t x i => exact xev1_s h fun v h => xev1_s h fun u h => xindexAddr_s h hk
  case index t x i => exact xev1_s h fun v h => xev1_s h fun u h => xindex_s h hk
  case extract x i => exact xev1_s h fun v h => xextract_s h hk
  case typeAssert x a t ok => exact xev1_s h fun v h => xtypeAssert_s h hk
  case convert s d x => exact xev1_s h fun v h => xcvA_s h hk
  case call c =>
    split at h
    · rename_i h1 h2 h3
      simp only [h1, h2, h3]
      exact xev1_s h fun v h => xlenA_s h hk
    · rename_i h1 h2 h3
      simp only [h1, h2, h3]
      exact xev1_s h fun v h => xcap_s h hk
    · rename_i h1 h2
      simp only [h1, h2]
      exact xev1_s h fun v h => xev1_s h fun u h => xmin_s h hk
    · rename_i h1 h2
      simp only [h1, h2]
      exact xev1_s h fun v h => xev1_s h fun u h => xmax_s h hk
    · cases h
  all_goals cases h

theorem xstrSlice_s {s : ByteArray} {lo hi mx : Option Value} (h : xstrSlice s lo hi mx K = some r) (hk : ∀ u, K u = some r → K' u) : astrSlice s lo hi mx K' := by
  unfold xstrSlice at h; unfold astrSlice
  split at h
  · exact xbnd_s h fun u h => xbnd_s h fun v h => hk _ h
  · cases h

theorem xslice_s {t : TypeId} {x : Value} {lo hi mx : Option Value} (h : xslice P T t x lo hi mx K = some r) (hk : ∀ u, K u = some r → K' u) : aslice P T.den t x lo hi mx K' := by
  unfold xslice at h; unfold aslice
  split at h
  · exact xsliceS_s h hk
  · split at h
    · rename_i h1
      simp only [h1]
      exact xstrSlice_s h hk
    · cases h
  · cases h

theorem xcvR_s {s d : TypeId} {x : Value} (h : xcvR P s d x T K = some r) (hk : ∀ u, K u = some r → K' u) : acvR P s d x T.den K' := by
  unfold xcvR at h; unfold acvR
  split at h
  · rename_i h1 h2
    simp only [h1, h2]
    split at h
    · rename_i h3
      simp only [h3]
      refine xsliceC_s h fun n xs h => ?_
      split at h
      · rename_i h4
        simp only [h4]
        exact hk _ h
      · cases h
    · cases h
  · cases h

theorem xlenR_s {x : Value} (h : xlenR x T K = some r) (hk : ∀ u, K u = some r → K' u) : alenR x T.den K' := by
  unfold xlenR at h; unfold alenR
  split at h
  · exact hk _ h
  · simp only [VS.den_get]
    split at h
    · rename_i h1
      simp only [h1]
      exact hk _ h
    · cases h
  · cases h

theorem xlopR_s {o : Oper} (h : xlopR P E o T K = some r) (hk : ∀ u, K u = some r → K' u) : lopR P (eden N E) o T.den K' := by
  unfold xlopR at h; unfold lopR
  obtain ⟨dst, op, type, pos, after, guard⟩ := o
  simp only at h ⊢
  cases op <;> simp only at h ⊢
  case load t x => exact xev1_s h fun v h => xload_s h hk
  case slice t x lo hi mx => exact xev1_s h fun v h => xevO_s h fun lo h => xevO_s h fun hi h => xevO_s h fun mx h => xslice_s h hk
  case lookup t x k ok => exact xev1_s h fun v h => xev1_s h fun u h => xlookup_s h fun z h => xshp_s h hk
  case convert s d x => exact xev1_s h fun v h => xcvR_s h hk
  case call c =>
    split at h
    · rename_i h1 h2 h3
      simp only [h1, h2, h3]
      split at h
      · rename_i h4
        simp only [h4]
        exact xev1_s h fun v h => xlenR_s h hk
      · cases h
    · cases h
  all_goals cases h

theorem xappend_s {s t : TypeId} {x y : Value} (h : xappend P s t x y T G = some r) (hk : ∀ u T, G u T = some r → G' u T.den) : aappend P s t x y T.den G' := by
  unfold xappend at h; unfold aappend
  have key : ∀ e, (match elemO P e with
    | some (es, bytes, _) => xsliceC T es y fun n xs => if xs.all (·.oneCell') = true then xapp T es bytes x n xs G else none
    | none => none) = some r → (match elemO P e with
    | some (es, bytes, _) => sliceC T.den es y fun n xs => xs.all (·.oneCell') = true ∧ aapp T.den es bytes x n xs G'
    | none => False) := by
    intro e h
    split at h
    · rename_i h2
      refine xsliceC_s h fun n xs h => ?_
      split at h
      · rename_i h3
        exact ⟨h3, xapp_s h hk⟩
      · cases h
    · cases h
  split at h
  · rename_i h1 h2
    simp only [h1, h2]
    exact key _ h
  · rename_i h1 h2
    simp only [h1, h2]
    exact key _ h
  · rename_i h1 h2
    simp only [h1, h2]
    split at h
    · rename_i h3
      simp only [h3]
      split at h
      · rename_i h4
        exact ⟨h4.1, h4.2.1, h4.2.2.1, h4.2.2.2, xapp_s h hk⟩
      · cases h
    · cases h
  · cases h

theorem xlopW_s {o : Oper} (h : xlopW P E o T G = some r) (hk : ∀ u T, G u T = some r → G' u T.den) : lopW P (eden N E) o T.den G' := by
  unfold xlopW at h; unfold lopW
  obtain ⟨dst, op, type, pos, after, guard⟩ := o
  simp only at h ⊢
  cases op <;> (try simp only at h ⊢)
  case alloc t =>
    split at h
    · rename_i h1
      simp only [h1]
      exact xnew_s h hk
    · cases h
  case box t x => exact xev1_s h fun v h => xnew_s h hk
  case buildSlice t n ps =>
    rw [xavals]
    split at h
    · rename_i h1
      simp only [h1]
      exact xbuildSlice_s h hk
    · cases h
  case store t x y => exact xev1_s h fun v h => xev1_s h fun u h => xstore_s h fun T h => hk _ _ h
  case makeMap t re =>
    cases re with
    | none =>
      unfold amakeMap
      rw [VS.den_alloc]
      exact hk _ _ h
    | some x => cases h
  case makeSlice t x y => exact xev1_s h fun v h => xev1_s h fun u h => xmakeSlice_s h hk
  case mapUpdate t m k x => exact xev1_s h fun v h => xev1_s h fun u h => xev1_s h fun z h => xmapUpdate_s h fun T h => hk _ _ h
  case insert t m k x => exact xev1_s h fun v h => xev1_s h fun u h => xev1_s h fun z h => xmapUpdate_s h fun T h => hk _ _ h
  case convert s d x => exact xev1_s h fun v h => xconvert_s h hk
  case call c =>
    split at h
    · rename_i h1 h2 h3
      simp only [h1, h2, h3]
      exact xev1_s h fun v h => xev1_s h fun u h => xappend_s h hk
    · cases h
  all_goals cases h

theorem xop_s {o : Oper} {Kp : List PanicEntry → Heap → Prop} (h : xop P E o T G = some r) (hk : ∀ u T, G u T = some r → G' u T.den) : lop P (eden N E) o T.den G' Kp := by
  unfold xop at h; unfold lop
  split at h
  · rename_i h1
    simp only [h1]
    exact xlopA_s h fun u hu => hk _ _ hu
  · rename_i h1
    simp only [h1]
    exact xlopR_s h fun u hu => hk _ _ hu
  · rename_i h1
    simp only [h1]
    exact xlopW_s h hk
  · cases h
end

end Go.Lift
