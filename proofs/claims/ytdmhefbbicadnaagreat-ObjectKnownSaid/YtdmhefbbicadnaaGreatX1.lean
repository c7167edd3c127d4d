import Derived.Test.YtdmhefbbicadnaaGreatX0
/-! The evaluator, part 1: each operation's answer, worked out. -/
namespace Go.Lift

section
variable {R : Type}

def xshp1 (d : Option TypeDesc) (v : Value) (K : Value → Option R) : Option R :=
  match d with
  | some (.int k) => (match v with | .int k' n => if k = k' then K (.int k n) else none | _ => none)
  | some .bool => (match v with | .bool b => K (.bool b) | _ => none)
  | some .string => (match v with | .string s => K (.string s) | _ => none)
  | some (.pointer _) => (match v with | .pointer a => K (.pointer a) | _ => none)
  | some (.slice _) => (match v with | .slice a l c => K (.slice a l c) | _ => none)
  | some (.map _ _) => (match v with | .map r => K (.map r) | _ => none)
  | _ => K v

def xshpL : List (Option TypeDesc) → List Value → (List Value → Option R) → Option R
  | [], [], K => K []
  | d :: ds, v :: vs, K => xshp1 d v fun u => xshpL ds vs fun us => K (u :: us)
  | _, _, _ => none

def xshpC (P : Program) (t : TypeId) (v : Value) (K : Value → Option R) : Option R :=
  match isAggD (P.underlying t) with
  | true => (match v with | .agg cs => xshpL (cellDs P 20 t) cs.toList fun l => K (.agg l.toArray) | _ => none)
  | false => xshp1 (P.underlying t) v K

def xshpT (P : Program) : List TypeId → List Value → (List Value → Option R) → Option R
  | [], [], K => K []
  | t :: ts, v :: vs, K => xshpC P t v fun u => xshpT P ts vs fun us => K (u :: us)
  | _, _, _ => none

def xshp (P : Program) (t : TypeId) (v : Value) (K : Value → Option R) : Option R :=
  match P.underlying t with
  | some (.tuple ts) => (match v with | .tuple vs => xshpT P ts.toList vs.toList fun l => K (.tuple l.toArray) | _ => none)
  | _ => xshpC P t v K

def xldL (c : List Value) (o : Nat) : List (Option TypeDesc) → (List Value → Option R) → Option R
  | [], K => K []
  | d :: ds, K => match c[o]? with
    | some v => xshp1 d v fun u => xldL c (o + 1) ds fun us => K (u :: us)
    | none => none

def xload (P : Program) (t : TypeId) (a : Value) (T : VS) (K : Value → Option R) : Option R :=
  match a with
  | .pointer (some ⟨b, o, none⟩) =>
    (match T.get b with
    | some (.cells _ _ c) =>
      (match isAggD (P.underlying t) with
      | true => if (P.info? t).map (·.size) = some (cellDs P 20 t).length ∧ o ≤ c.length then xldL c o (cellDs P 20 t) fun l => K (.agg l.toArray) else none
      | false => if (P.underlying t).isSome = true then (match c[o]? with
        | some v => xshp1 (P.underlying t) v K
        | none => none) else none)
    | _ => none)
  | _ => none

def xstore (P : Program) (t : TypeId) (a v : Value) (T : VS) (K : VS → Option R) : Option R :=
  match a with
  | .pointer (some ⟨b, o, none⟩) =>
    (match T.get b with
    | some (.cells false es c) =>
      if (P.info? t).map (·.size) = some v.cells.size ∧ o + v.cells.size ≤ c.length ∧ v.cells.toList.all (·.oneCell') = true then K (T.set b (.cells false es (putL c o v.cells.toList))) else none
    | _ => none)
  | _ => none

def xnew (v : Value) (T : VS) (K : Value → VS → Option R) : Option R :=
  K (.pointer (some ⟨T.next, 0, none⟩)) (T.alloc (.cells false 0 v.cells.toList))

def xbuild (P : Program) (t : TypeId) (parts : List (Nat × Value)) (K : Value → Option R) : Option R :=
  match zeroOf P t with
  | some z => (match P.underlying t with
    | some (.struct fs) => (match placesOf P fs.toList with
      | some places => (match fillL (fun i => places.toArray[i]?) z.cells.toList parts with
        | some r => K (.agg r.toArray)
        | none => none)
      | none => none)
    | _ => none)
  | none => none

/-- Two pointers, the same one twice, to something of a size. -/
def xptr (P : Program) (u : TypeId) (a b : Addr) (r : Option R) : Option R :=
  match P.info? u with
  | some i => (match i.size with
    | n + 1 => if a = b then r else none
    | 0 => none)
  | none => none

def xbin (P : Program) (cs : Bool) (op : BinOp) (t : TypeId) (x y : Value) (K : Value → Option R) : Option R :=
  match x, y with
  | .int k a, .int k' b =>
    (match op with
    | .shl => if 0 ≤ b then K (.int k (k.wrap (a * 2 ^ (min b.toNat k.bits)))) else none
    | .shr => if 0 ≤ b then K (.int k (a.fdiv (2 ^ (min b.toNat k.bits)))) else none
    | .add => if k = k' then K (.int k (k.wrap (a + b))) else none
    | .sub => if k = k' then K (.int k (k.wrap (a - b))) else none
    | .mul => if k = k' then K (.int k (k.wrap (a * b))) else none
    | .quo => if k = k' ∧ b ≠ 0 then K (.int k (k.wrap (a.tdiv b))) else none
    | .rem => if k = k' ∧ b ≠ 0 then K (.int k (a.tmod b)) else none
    | .and => if k = k' then K (.int k (ibits .and k a b)) else none
    | .or => if k = k' then K (.int k (ibits .or k a b)) else none
    | .xor => if k = k' then K (.int k (ibits .xor k a b)) else none
    | .andNot => if k = k' then K (.int k (ibits .andNot k a b)) else none
    | .eql => if k = k' then K (.bool (a == b)) else none
    | .neq => if k = k' then K (.bool (a != b)) else none
    | .lss => if k = k' then K (.bool (decide (a < b))) else none
    | .leq => if k = k' then K (.bool (decide (a ≤ b))) else none
    | .gtr => if k = k' then K (.bool (decide (a > b))) else none
    | .geq => if k = k' then K (.bool (decide (a ≥ b))) else none)
  | .string a, .string b =>
    (match op with
    | .eql => K (.bool (a.toList == b.toList))
    | .neq => K (.bool (!(a.toList == b.toList)))
    | _ => none)
  | .bool a, .bool b =>
    (match op, P.underlying t with
    | .eql, some .bool => K (.bool (a == b))
    | .neq, some .bool => K (.bool (!(a == b)))
    | _, _ => none)
  | .pointer none, .pointer b =>
    (match op, P.underlying t with
    | .eql, some (.pointer _) => K (.bool b.isNone)
    | .neq, some (.pointer _) => K (.bool (!b.isNone))
    | _, _ => none)
  | .pointer (some _), .pointer none =>
    (match op, P.underlying t with
    | .eql, some (.pointer _) => K (.bool false)
    | .neq, some (.pointer _) => K (.bool true)
    | _, _ => none)
  | .pointer (some a), .pointer (some b) =>
    (match op, P.underlying t with
    | .eql, some (.pointer u) => xptr P u a b (K (.bool true))
    | .neq, some (.pointer u) => xptr P u a b (K (.bool false))
    | _, _ => none)
  | .nilIface, .nilIface =>
    (match op, P.underlying t with
    | .eql, some (.interface _) => if cs = true then K (.bool true) else none
    | .neq, some (.interface _) => if cs = true then K (.bool false) else none
    | _, _ => none)
  | .iface _ _, .nilIface =>
    (match op, P.underlying t with
    | .eql, some (.interface _) => K (.bool false)
    | .neq, some (.interface _) => K (.bool true)
    | _, _ => none)
  | .nilFunc, .nilFunc =>
    (match op, P.underlying t with
    | .eql, some (.func _ _ _) => K (.bool true)
    | .neq, some (.func _ _ _) => K (.bool false)
    | _, _ => none)
  | .func _ _ _, .nilFunc =>
    (match op, P.underlying t with
    | .eql, some (.func _ _ _) => K (.bool false)
    | .neq, some (.func _ _ _) => K (.bool true)
    | _, _ => none)
  | .slice a _ _, .slice none 0 0 =>
    (match op, P.underlying t with
    | .eql, some (.slice _) => K (.bool a.isNone)
    | .neq, some (.slice _) => K (.bool (!a.isNone))
    | _, _ => none)
  | _, _ => none

def xun (op : UnOp) (x : Value) (K : Value → Option R) : Option R :=
  match op, x with
  | .not, .bool b => K (.bool (!b))
  | .neg, .int k n => K (.int k (k.wrap (0 - n)))
  | .xor, .int k n => K (.int k (ibits .xor k (if k.signed then -1 else k.max) n))
  | _, _ => none

def xfieldAddr (P : Program) (s : TypeId) (x : Value) (i : Nat) (K : Value → Option R) : Option R :=
  match x with
  | .pointer (some ⟨b, o, none⟩) =>
    (match P.underlying s with
    | some (.struct fs) => (match fs[i]? with
      | some f => (match sizeO P f.type with
        | some (_ + 1) => K (.pointer (some ⟨b, o + f.offset, none⟩))
        | _ => none)
      | none => none)
    | _ => none)
  | _ => none

def xindexAddr (P : Program) (t : TypeId) (x i : Value) (K : Value → Option R) : Option R :=
  match x, i with
  | .slice (some ⟨b, o, none⟩) l _, .int _ n =>
    (match P.underlying t with
    | some (.slice e) => (match sizeO P e with
      | some s => if 0 ≤ n ∧ n < (l : Int) then K (.pointer (some ⟨b, o + n.toNat * s, none⟩)) else none
      | none => none)
    | _ => none)
  | .pointer (some ⟨b, o, none⟩), .int _ n =>
    (match P.underlying t with
    | some (.array l e) => (match sizeO P e with
      | some s => if 0 ≤ n ∧ n < (l : Int) then K (.pointer (some ⟨b, o + n.toNat * s, none⟩)) else none
      | none => none)
    | _ => none)
  | _, _ => none

def xindex (P : Program) (t : TypeId) (x i : Value) (K : Value → Option R) : Option R :=
  match x, i with
  | .string s, .int _ n =>
    (match P.underlying t with
    | some .string => (match (if 0 ≤ n then s[n.toNat]? else none) with
      | some b => K (.int .u8 b.toNat)
      | none => none)
    | _ => none)
  | _, _ => none

def xfield (P : Program) (t : TypeId) (x : Value) (i : Nat) (K : Value → Option R) : Option R :=
  match x with
  | .agg cs => (match P.underlying t with
    | some (.struct fs) => (match fs[i]? with
      | some f => (match isAggD (P.underlying f.type), (P.underlying f.type).isSome, sizeO P f.type with
        | true, _, some s => K (.agg ((cs.toList.drop f.offset).take s).toArray)
        | false, true, _ => (match cs.toList[f.offset]? with
          | some v => K v
          | none => none)
        | _, _, _ => none)
      | none => none)
    | _ => none)
  | _ => none

def xextract (x : Value) (i : Nat) (K : Value → Option R) : Option R :=
  match x with
  | .tuple vs => (match vs.toList[i]? with
    | some v => K v
    | none => none)
  | _ => none

def xbnd (x : Option Value) (dflt : Nat) (most : Nat) (K : Nat → Option R) : Option R :=
  match x with
  | none => K dflt
  | some (.int _ n) => if 0 ≤ n ∧ n ≤ (most : Int) then K n.toNat else none
  | some _ => none

def xsl1 (T : VS) (s : Nat) (a : Option Addr) (l c j h : Nat) (K : Value → Option R) : Option R :=
  match a with
  | none => K (.slice none 0 0)
  | some ⟨b, o, none⟩ =>
    (match decide (j < l) with
    | true => (match T.get b with
      | some (.cells _ es _) => if es = s then K (.slice (some ⟨b, o + j * s, none⟩) (h - j) (match decide (c = l ∧ h = l) with | true => h - j | false => h - j + 1)) else none
      | _ => none)
    | false => K (.slice (some ⟨0, 0, none⟩) 0 (match decide (c = l) with | true => 0 | false => 1)))
  | _ => none

def xsl2 (T : VS) (s : Nat) (a : Option Addr) (j h m : Nat) (K : Value → Option R) : Option R :=
  match a with
  | none => K (.slice none 0 0)
  | some ⟨b, o, none⟩ =>
    (match decide (j < m) with
    | true => (match T.get b with
      | some (.cells _ es _) => if es = s then K (.slice (some ⟨b, o + j * s, none⟩) (h - j) (match decide (m = h) with | true => h - j | false => h - j + 1)) else none
      | _ => none)
    | false => K (.slice (some ⟨0, 0, none⟩) 0 0))
  | _ => none

def xsliceS (P : Program) (T : VS) (t : TypeId) (a : Option Addr) (l c : Nat) (lo hi mx : Option Value) (K : Value → Option R) : Option R :=
  match P.underlying t with
  | some (.slice e) => (match sizeO P e with
    | some s =>
      (match mx with
      | none => xbnd hi l l fun h => xbnd lo 0 h fun j => xsl1 T s a l c j h K
      | some m => xbnd (some m) 0 l fun m => if hi.isSome = true then xbnd hi 0 m fun h => xbnd lo 0 h fun j => xsl2 T s a j h m K else none)
    | none => none)
  | _ => none

def xsliceC (T : VS) (s : Nat) (v : Value) (K : Nat → List Value → Option R) : Option R :=
  match v with
  | .slice none l _ => if l = 0 then K 0 [] else none
  | .slice (some ⟨b, o, none⟩) l _ =>
    if l = 0 then K 0 [] else (match T.get b with
      | some (.cells _ es c) => if es = s ∧ o + l * s ≤ c.length then K l ((c.drop o).take (l * s)) else none
      | _ => none)
  | .string st => if s = 1 then K st.size (st.data.toList.map fun b => .int .u8 b.toNat) else none
  | _ => none

instance (n b : Nat) : Decidable (fits n b) := inferInstanceAs (Decidable (_ ∧ _ ∧ _))

def xapp (T : VS) (es bytes : Nat) (s : Value) (n : Nat) (xs : List Value) (K : Value → VS → Option R) : Option R :=
  match s with
  | .slice base l c =>
    if n = 0 then K (.slice base l c) T else if fits (l + n) bytes then
      (match base with
      | none => K (.slice (some ⟨T.next, 0, none⟩) (0 + n) (0 + n + 1)) (T.alloc (.cells false es xs))
      | some ⟨b, o, none⟩ =>
        if c = l then xsliceC T es (.slice (some ⟨b, o, none⟩) l c) fun _ old => K (.slice (some ⟨T.next, 0, none⟩) (l + n) (l + n + 1)) (T.alloc (.cells false es (old ++ xs)))
        else (match T.get b with
        | some (.cells false es' cs) => if es' = es ∧ es ≠ 0 ∧ o + l * es ≤ cs.length ∧ cs.all (·.oneCell') = true then
            K (.slice (some ⟨T.next, 0, none⟩) (l + n) (l + n + 1)) ((T.drop b).alloc (.cells false es ((cs.drop o).take (l * es) ++ xs))) else none
        | _ => none)
      | _ => none) else none
  | _ => none

def xrow (es : Nat) (n : Nat) (r : List Value) (T : VS) (K : Value → VS → Option R) : Option R :=
  K (.slice (some ⟨T.next, 0, none⟩) n n) (T.alloc (.cells false es r))

def xmakeSlice (P : Program) (t : TypeId) (len cap : Value) (T : VS) (K : Value → VS → Option R) : Option R :=
  match len, cap with
  | .int _ n, .int _ m =>
    (match P.underlying t with
    | some (.slice e) => (match elemO P e with
      | some (es, bytes, zc) => if n = m ∧ 0 ≤ n ∧ fits n.toNat bytes then xrow es n.toNat (zrow zc n.toNat) T K else none
      | none => none)
    | _ => none)
  | _, _ => none

def xbuildSlice (P : Program) (t : TypeId) (len : Nat) (parts : List (Nat × Value)) (T : VS) (K : Value → VS → Option R) : Option R :=
  match P.underlying t with
  | some (.slice e) => (match elemO P e with
    | some (es, _, zc) => if len * es ≤ 2 ^ 24 then (match fillL (fun i => some (i * es, es)) (zrow zc len) parts with
      | some r => xrow es len r T K
      | none => none) else none
    | none => none)
  | _ => none

def xcap (P : Program) (t : TypeId) (x : Value) (K : Value → Option R) : Option R :=
  match x with
  | .slice _ l c => (match P.underlying t with | some (.slice _) => if c = l then K (.int .i64 l) else none | _ => none)
  | _ => none

def xmin (x y : Value) (K : Value → Option R) : Option R :=
  match x, y with
  | .int k a, .int _ b => K (.int k (if b < a then b else a))
  | _, _ => none

def xmax (x y : Value) (K : Value → Option R) : Option R :=
  match x, y with
  | .int k a, .int _ b => K (.int k (if b > a then b else a))
  | _, _ => none

def xlookup (P : Program) (t : TypeId) (x k : Value) (ok : Bool) (T : VS) (K : Value → Option R) : Option R :=
  match P.underlying t with
  | some (.map kt et) =>
    (match P.underlying kt with
    | some kd => if plainKey kd = true then
      (match x with
      | .map none => (match zeroOf P et with
        | some z => K (match ok with | true => .tuple #[z, .bool false] | false => z)
        | none => none)
      | .map (some b) => (match T.get b with
        | some (.map m) => (match afind kd k m 0 with
          | some (some (_, v)) => K (match ok with | true => .tuple #[v, .bool true] | false => v)
          | some none => (match zeroOf P et with
            | some z => K (match ok with | true => .tuple #[z, .bool false] | false => z)
            | none => none)
          | none => none)
        | _ => none)
      | _ => none) else none
    | none => none)
  | _ => none

def xmapUpdate (P : Program) (t : TypeId) (x k v : Value) (T : VS) (K : VS → Option R) : Option R :=
  match P.underlying t, x with
  | some (.map kt _), .map (some b) =>
    (match P.underlying kt with
    | some kd => if plainKey kd = true then
      (match T.get b with
      | some (.map m) => (match afind kd k m 0 with
        | some r => K (T.set b (.map (mput m k v r)))
        | none => none)
      | _ => none) else none
    | none => none)
  | _, _ => none

def xconvert (P : Program) (src dst : TypeId) (x : Value) (T : VS) (K : Value → VS → Option R) : Option R :=
  match x with
  | .string s => (match P.underlying src, P.underlying dst with
    | some .string, some (.slice e) => (match P.underlying e with
      | some (.int .u8) => K (.slice (some ⟨T.next, 0, none⟩) s.size (s.size + 1)) (T.alloc (.cells false 1 (s.data.toList.map fun b => .int .u8 b.toNat)))
      | _ => none)
    | _, _ => none)
  | .slice a l c => (match P.underlying src, P.underlying dst with
    | some (.slice _), some (.slice e) => (match P.underlying e, a with
      | some (.int .u8), some ⟨b, o, none⟩ => if src = dst then (match T.get b with
        | some (.cells false _ _) => K (.slice (some ⟨b, o, none⟩) l c) T
        | _ => none) else none
      | _, _ => none)
    | _, _ => none)
  | _ => none

def xmakeInterface (P : Program) (t : TypeId) (x : Value) (K : Value → Option R) : Option R :=
  match P.underlying t with
  | some (.interface _) => none
  | some _ => K (.iface t x)
  | none => none

def xtypeAssert (P : Program) (t : TypeId) (x : Value) (ok : Bool) (K : Value → Option R) : Option R :=
  if ok = true then (match P.underlying t with
  | some (.interface _) => none
  | some _ => (match x with
    | .iface u v => (match decide (u = t) with
      | true => K (.tuple #[v, .bool true])
      | false => (match zeroOf P t with | some z => K (.tuple #[z, .bool false]) | none => none))
    | .nilIface => (match zeroOf P t with | some z => K (.tuple #[z, .bool false]) | none => none)
    | _ => none)
  | none => none) else none
end

section
variable {R : Type} {r : R} {P : Program} {K : Value → Option R} {K' : Value → Prop} {T : VS} {G : Value → VS → Option R} {G' : Value → Heap → Prop}

theorem xshp1_s {d : Option TypeDesc} {v : Value} (h : xshp1 d v K = some r) (hk : ∀ u, K u = some r → K' u) : shp1 d v K' := by
  unfold xshp1 at h; unfold shp1; split at h <;> simp_all
  all_goals (split at h <;> simp_all)

theorem xshpL_s : ∀ {ds : List (Option TypeDesc)} {vs : List Value} {K : List Value → Option R} {K' : List Value → Prop} (_ : xshpL ds vs K = some r) (_ : ∀ u, K u = some r → K' u), shpL ds vs K'
  | [], [], K, K', h, hk => hk _ h
  | d :: ds, v :: vs, K, K', h, hk => xshp1_s (K := fun u => xshpL ds vs fun us => K (u :: us)) h fun u hu => xshpL_s hu fun us h => hk _ h
  | [], _ :: _, _, _, h, _ => by simp [xshpL] at h
  | _ :: _, [], _, _, h, _ => by simp [xshpL] at h

theorem xshpC_s {t : TypeId} {v : Value} (h : xshpC P t v K = some r) (hk : ∀ u, K u = some r → K' u) : shpC P t v K' := by
  unfold xshpC at h; unfold shpC
  split at h
  · split at h
    · rename_i h1 _ _
      simp only [h1]
      exact xshpL_s h fun u hu => hk _ hu
    · cases h
  · rename_i h1
    simp only [h1]
    exact xshp1_s h hk

theorem xshpT_s : ∀ {ts : List TypeId} {vs : List Value} {K : List Value → Option R} {K' : List Value → Prop} (_ : xshpT P ts vs K = some r) (_ : ∀ u, K u = some r → K' u), shpT P ts vs K'
  | [], [], K, K', h, hk => hk _ h
  | d :: ds, v :: vs, K, K', h, hk => xshpC_s (K := fun u => xshpT P ds vs fun us => K (u :: us)) h fun u hu => xshpT_s hu fun us h => hk _ h
  | [], _ :: _, _, _, h, _ => by simp [xshpT] at h
  | _ :: _, [], _, _, h, _ => by simp [xshpT] at h

theorem xshp_s {t : TypeId} {v : Value} (h : xshp P t v K = some r) (hk : ∀ u, K u = some r → K' u) : shp P t v K' := by
  unfold xshp at h; unfold shp
  split at h
  · rename_i h1
    simp only [h1]
    split at h
    · exact xshpT_s h fun u hu => hk _ hu
    · cases h
  · split
    · simp_all
    · exact xshpC_s h hk

theorem xldL_s : ∀ {ds : List (Option TypeDesc)} {c : List Value} {o : Nat} {K : List Value → Option R} {K' : List Value → Prop} (_ : xldL c o ds K = some r) (_ : ∀ u, K u = some r → K' u), ldL c o ds K'
  | [], _, _, K, K', h, hk => hk _ h
  | d :: ds, c, o, K, K', h, hk => by
    unfold xldL at h; unfold ldL
    split at h
    · rename_i h1
      simp only [h1]
      exact xshp1_s h fun u hu => xldL_s hu fun us h => hk _ h
    · cases h

theorem xload_s {t : TypeId} {a : Value} (h : xload P t a T K = some r) (hk : ∀ u, K u = some r → K' u) : aload P t a T.den K' := by
  unfold xload at h
  unfold aload
  split at h
  · split at h
    · rename_i h1
      simp only [VS.den_get, h1]
      split at h
      · rename_i h2
        simp only [h2]
        split at h
        · rename_i h3
          exact ⟨h3.1, h3.2, xldL_s h fun u hu => hk _ hu⟩
        · cases h
      · rename_i h2
        simp only [h2]
        split at h
        · rename_i h3
          refine ⟨h3, ?_⟩
          split at h
          · rename_i h4
            simp only [h4]
            exact xshp1_s h hk
          · cases h
        · cases h
    · cases h
  · cases h

theorem xstore_s {t : TypeId} {a v : Value} {K : VS → Option R} {K' : Heap → Prop} (h : xstore P t a v T K = some r) (hk : ∀ T, K T = some r → K' T.den) : astore P t a v T.den K' := by
  unfold xstore at h
  unfold astore
  split at h
  · split at h
    · rename_i h1
      simp only [VS.den_get, h1]
      split at h
      · rename_i h2
        refine ⟨h2.1, h2.2.1, h2.2.2, ?_⟩
        rw [VS.den_set]
        exact hk _ h
      · cases h
    · cases h
  · cases h

theorem xnew_s {v : Value} (h : xnew v T G = some r) (hk : ∀ u T, G u T = some r → G' u T.den) : anew v T.den G' := by
  unfold xnew at h
  unfold anew
  rw [VS.den_alloc]
  exact hk _ _ h

theorem xbuild_s {t : TypeId} {ps : List (Nat × Value)} (h : xbuild P t ps K = some r) (hk : ∀ u, K u = some r → K' u) : abuild P t ps K' := by
  unfold xbuild at h; unfold abuild
  repeat' (split at h <;> try (cases h; done))
  all_goals simp_all

theorem xptr_s {u : TypeId} {a b : Addr} {x : Option R} (h : xptr P u a b x = some r) : (∃ n, (P.info? u).map (·.size) = some (n + 1)) ∧ a = b ∧ x = some r := by
  unfold xptr at h
  split at h
  · rename_i i hi
    split at h
    · rename_i n hn
      split at h
      · rename_i hab
        exact ⟨⟨n, by simp [hi, hn]⟩, hab, h⟩
      · cases h
    · cases h
  · cases h

theorem xbin_s {cs : Bool} {op : BinOp} {t : TypeId} {x y : Value} (h : xbin P cs op t x y K = some r) (hk : ∀ u, K u = some r → K' u) : abin P cs op t x y K' := by
  unfold xbin at h; unfold abin
  split at h
  · cases op <;> simp only at h ⊢ <;> split at h <;> first | (cases h; done) | (simp_all; done)
  · cases op <;> simp only at h ⊢ <;> first | (cases h; done) | exact hk _ h
  all_goals first
    | (cases h; done)
    | (simp only at h ⊢; (split at h <;> first | (cases h; done) | (rename_i hq; simp only [hq]; obtain ⟨⟨n, h1⟩, h2, h3⟩ := xptr_s h; exact ⟨n, h1, h2, hk _ h3⟩) | (simp_all; done)))
    | (simp only at h ⊢; split at h <;> (try (cases h; done)) <;> split at h <;> first | (cases h; done) | (simp_all; done))

theorem xun_s {op : UnOp} {x : Value} (h : xun op x K = some r) (hk : ∀ u, K u = some r → K' u) : aun op x K' := by
  unfold xun at h; unfold aun
  split at h <;> first | (cases h; done) | exact hk _ h

theorem xfieldAddr_s {s : TypeId} {x : Value} {i : Nat} (h : xfieldAddr P s x i K = some r) (hk : ∀ u, K u = some r → K' u) : afieldAddr P s x i K' := by
  unfold xfieldAddr at h; unfold afieldAddr
  repeat' (split at h <;> try (cases h; done))
  all_goals simp_all

theorem xindexAddr_s {t : TypeId} {x i : Value} (h : xindexAddr P t x i K = some r) (hk : ∀ u, K u = some r → K' u) : aindexAddr P t x i K' := by
  unfold xindexAddr at h; unfold aindexAddr
  repeat' (split at h <;> try (cases h; done))
  all_goals simp_all

theorem xindex_s {t : TypeId} {x i : Value} (h : xindex P t x i K = some r) (hk : ∀ u, K u = some r → K' u) : aindex P t x i K' := by
  unfold xindex at h; unfold aindex
  split at h
  · split at h
    · rename_i h1
      simp only [h1]
      generalize (if (0 : Int) ≤ _ then _ else (none : Option UInt8)) = z at h ⊢
      cases z with
      | none => cases h
      | some b => exact hk _ h
    · cases h
  · cases h

theorem xfield_s {t : TypeId} {x : Value} {i : Nat} (h : xfield P t x i K = some r) (hk : ∀ u, K u = some r → K' u) : afield P t x i K' := by
  unfold xfield at h; unfold afield
  repeat' (split at h <;> try (cases h; done))
  all_goals simp_all

theorem xextract_s {x : Value} {i : Nat} (h : xextract x i K = some r) (hk : ∀ u, K u = some r → K' u) : aextract x i K' := by
  unfold xextract at h; unfold aextract
  repeat' (split at h <;> try (cases h; done))
  all_goals simp_all

theorem xbnd_s {x : Option Value} {d m : Nat} {K : Nat → Option R} {K' : Nat → Prop} (h : xbnd x d m K = some r) (hk : ∀ u, K u = some r → K' u) : bnd x d m K' := by
  unfold xbnd at h; unfold bnd
  repeat' (split at h <;> try (cases h; done))
  all_goals simp_all

theorem xsl1_s {s : Nat} {a : Option Addr} {l c j hh : Nat} (h : xsl1 T s a l c j hh K = some r) (hk : ∀ u, K u = some r → K' u) : asl1 T.den s a l c j hh K' := by
  unfold xsl1 at h; unfold asl1
  split at h
  · exact hk _ h
  · simp only
    split at h
    · rename_i h1
      simp only [h1, VS.den_get]
      split at h
      · rename_i h2
        simp only [h2]
        split at h
        · rename_i h3
          exact ⟨h3, hk _ h⟩
        · cases h
      · cases h
    · rename_i h1
      simp only [h1]
      exact hk _ h
  · cases h

theorem xsl2_s {s : Nat} {a : Option Addr} {j hh m : Nat} (h : xsl2 T s a j hh m K = some r) (hk : ∀ u, K u = some r → K' u) : asl2 T.den s a j hh m K' := by
  unfold xsl2 at h; unfold asl2
  split at h
  · exact hk _ h
  · simp only
    split at h
    · rename_i h1
      simp only [h1, VS.den_get]
      split at h
      · rename_i h2
        simp only [h2]
        split at h
        · rename_i h3
          exact ⟨h3, hk _ h⟩
        · cases h
      · cases h
    · rename_i h1
      simp only [h1]
      exact hk _ h
  · cases h

theorem xsliceS_s {t : TypeId} {a : Option Addr} {l c : Nat} {lo hi mx : Option Value} (h : xsliceS P T t a l c lo hi mx K = some r) (hk : ∀ u, K u = some r → K' u) :
    asliceS P T.den t a l c lo hi mx K' := by
  unfold xsliceS at h; unfold asliceS
  split at h
  · rename_i h1
    simp only [h1]
    split at h
    · rename_i h2
      simp only [h2]
      split at h
      · exact xbnd_s h fun hh h => xbnd_s h fun j h => xsl1_s h hk
      · refine xbnd_s h fun mm h => ?_
        split at h
        · rename_i h3
          exact ⟨h3, xbnd_s h fun hh h => xbnd_s h fun j h => xsl2_s h hk⟩
        · cases h
    · cases h
  · cases h

theorem xsliceC_s {s : Nat} {v : Value} {K : Nat → List Value → Option R} {K' : Nat → List Value → Prop} (h : xsliceC T s v K = some r) (hk : ∀ n u, K n u = some r → K' n u) : sliceC T.den s v K' := by
  unfold xsliceC at h; unfold sliceC
  split at h
  · split at h
    · rename_i h1; exact ⟨h1, hk _ _ h⟩
    · cases h
  · simp only
    split at h
    · rename_i h1; exact .inl ⟨h1, hk _ _ h⟩
    · refine .inr ?_
      simp only [VS.den_get]
      split at h
      · rename_i h2
        simp only [h2]
        split at h
        · rename_i h3
          exact ⟨h3.1, h3.2, hk _ _ h⟩
        · cases h
      · cases h
  · split at h
    · rename_i h1; exact ⟨h1, hk _ _ h⟩
    · cases h
  · cases h

theorem xapp_s {es bytes : Nat} {s : Value} {n : Nat} {xs : List Value} (h : xapp T es bytes s n xs G = some r) (hk : ∀ u T, G u T = some r → G' u T.den) : aapp T.den es bytes s n xs G' := by
  unfold xapp at h; unfold aapp
  split at h
  · simp only
    split at h
    · rename_i h1; exact .inl ⟨h1, hk _ _ h⟩
    · rename_i h1
      refine .inr ⟨Nat.pos_of_ne_zero h1, ?_⟩
      split at h
      · rename_i h2
        refine ⟨h2, ?_⟩
        split at h
        · simp only [VS.den_alloc]
          exact hk _ _ h
        · simp only
          split at h
          · rename_i h3
            refine .inl ⟨h3, ?_⟩
            refine xsliceC_s h fun n u hu => ?_
            rw [VS.den_alloc]
            exact hk _ _ hu
          · refine .inr ?_
            split at h
            · rename_i h4
              simp only [VS.den_get, h4]
              split at h
              · rename_i h5
                refine ⟨h5.1, h5.2.1, h5.2.2.1, h5.2.2.2, ?_⟩
                rw [VS.den_drop, VS.den_alloc]
                exact hk _ _ h
              · cases h
            · cases h
        · cases h
      · cases h
  · cases h

theorem xrow_s {es n : Nat} {l : List Value} (h : xrow es n l T G = some r) (hk : ∀ u T, G u T = some r → G' u T.den) : arow es n l T.den G' := by
  unfold xrow at h; unfold arow
  rw [VS.den_alloc]
  exact hk _ _ h

theorem xmakeSlice_s {t : TypeId} {x y : Value} (h : xmakeSlice P t x y T G = some r) (hk : ∀ u T, G u T = some r → G' u T.den) : amakeSlice P t x y T.den G' := by
  unfold xmakeSlice at h; unfold amakeSlice
  split at h
  · split at h
    · rename_i h1
      simp only [h1]
      split at h
      · rename_i h2
        simp only [h2]
        split at h
        · rename_i h3
          exact ⟨h3.1, h3.2.1, h3.2.2, xrow_s h hk⟩
        · cases h
      · cases h
    · cases h
  · cases h

theorem xbuildSlice_s {t : TypeId} {n : Nat} {ps : List (Nat × Value)} (h : xbuildSlice P t n ps T G = some r) (hk : ∀ u T, G u T = some r → G' u T.den) : abuildSlice P t n ps T.den G' := by
  unfold xbuildSlice at h; unfold abuildSlice
  split at h
  · rename_i h1
    simp only [h1]
    split at h
    · rename_i h2
      simp only [h2]
      split at h
      · rename_i h3
        refine ⟨h3, ?_⟩
        split at h
        · rename_i h4
          simp only [h4]
          exact xrow_s h hk
        · cases h
      · cases h
    · cases h
  · cases h

theorem xcap_s {t : TypeId} {x : Value} (h : xcap P t x K = some r) (hk : ∀ u, K u = some r → K' u) : acap P t x K' := by
  unfold xcap at h; unfold acap
  repeat' (split at h <;> try (cases h; done))
  all_goals simp_all

theorem xmin_s {x y : Value} (h : xmin x y K = some r) (hk : ∀ u, K u = some r → K' u) : amin x y K' := by
  unfold xmin at h; unfold amin
  split at h
  · exact hk _ h
  · cases h

theorem xmax_s {x y : Value} (h : xmax x y K = some r) (hk : ∀ u, K u = some r → K' u) : amax x y K' := by
  unfold xmax at h; unfold amax
  split at h
  · exact hk _ h
  · cases h

theorem xlookup_s {t : TypeId} {x k : Value} {ok : Bool} (h : xlookup P t x k ok T K = some r) (hk : ∀ u, K u = some r → K' u) : alookup P t x k ok T.den K' := by
  unfold xlookup at h; unfold alookup
  split at h
  · rename_i h1
    simp only [h1]
    split at h
    · rename_i h2
      simp only [h2]
      split at h
      · rename_i h3
        refine ⟨h3, ?_⟩
        split at h
        · simp only
          split at h
          · rename_i h4
            simp only [h4]
            exact hk _ h
          · cases h
        · simp only [VS.den_get]
          split at h
          · rename_i h4
            simp only [h4]
            split at h
            · rename_i h5
              simp only [h5]
              exact hk _ h
            · rename_i h5
              simp only [h5]
              split at h
              · rename_i h6
                simp only [h6]
                exact hk _ h
              · cases h
            · cases h
          · cases h
        · cases h
      · cases h
    · cases h
  · cases h

theorem xmapUpdate_s {t : TypeId} {x k v : Value} {K : VS → Option R} {K' : Heap → Prop} (h : xmapUpdate P t x k v T K = some r) (hk : ∀ T, K T = some r → K' T.den) : amapUpdate P t x k v T.den K' := by
  unfold xmapUpdate at h; unfold amapUpdate
  split at h
  · rename_i h1
    simp only [h1]
    split at h
    · rename_i h2
      simp only [h2]
      split at h
      · rename_i h3
        refine ⟨h3, ?_⟩
        simp only [VS.den_get]
        split at h
        · rename_i h4
          simp only [h4]
          split at h
          · rename_i h5
            simp only [h5]
            rw [VS.den_set]
            exact hk _ h
          · cases h
        · cases h
      · cases h
    · cases h
  · cases h

theorem xconvert_s {s d : TypeId} {x : Value} (h : xconvert P s d x T G = some r) (hk : ∀ u T, G u T = some r → G' u T.den) : aconvert P s d x T.den G' := by
  unfold xconvert at h; unfold aconvert
  split at h
  · split at h
    · rename_i h1 h2
      simp only [h1, h2]
      split at h
      · rename_i h3
        simp only [h3]
        rw [VS.den_alloc]
        exact hk _ _ h
      · cases h
    · cases h
  · split at h
    · rename_i h1 h2
      simp only [h1, h2]
      split at h
      · rename_i h3
        simp only [h3]
        split at h
        · rename_i h4
          refine ⟨h4, ?_⟩
          simp only [VS.den_get]
          split at h
          · rename_i h5
            simp only [h5]
            exact hk _ _ h
          · cases h
        · cases h
      · cases h
    · cases h
  · cases h

theorem xmakeInterface_s {t : TypeId} {x : Value} (h : xmakeInterface P t x K = some r) (hk : ∀ u, K u = some r → K' u) : amakeInterface P t x K' := by
  unfold xmakeInterface at h; unfold amakeInterface
  split at h
  · cases h
  · rename_i hne _
    split
    · rename_i ms heq
      exact (hne ms (by simp_all)).elim
    · exact hk _ h
    · simp_all
  · cases h

theorem xtypeAssert_s {t : TypeId} {x : Value} {ok : Bool} (h : xtypeAssert P t x ok K = some r) (hk : ∀ u, K u = some r → K' u) : atypeAssert P t x ok K' := by
  unfold xtypeAssert at h; unfold atypeAssert
  split at h
  · rename_i h0
    refine ⟨h0, ?_⟩
    split at h
    · cases h
    · rename_i hne _
      split
      · rename_i ms heq
        exact (hne ms (by simp_all)).elim
      case h_3 => simp_all
      split at h
      · simp only
        split at h
        · rename_i h3
          simp only [h3]
          exact hk _ h
        · rename_i h3
          simp only [h3]
          split at h
          · rename_i h4
            simp only [h4]
            exact hk _ h
          · cases h
      · simp only
        split at h
        · rename_i h4
          simp only [h4]
          exact hk _ h
        · cases h
      · cases h
    · cases h
  · cases h
end

end Go.Lift
