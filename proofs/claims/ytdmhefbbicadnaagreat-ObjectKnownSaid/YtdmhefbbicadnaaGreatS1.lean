import Derived.Shelf.SlIterI.Collect
import Derived.Shelf.SlIterI.Sorted
import Derived.Shelf.SortM.Plain
import Derived.Shelf.SortM.SortNone
import Derived.Test.YtdmhefbbicadnaaGreatProg
import Derived.Test.YtdmhefbbicadnaaGreatS0
/-! The library's contracts on sorting, laid at this program. -/
namespace Go.Lift
open Go.Proofs Go.RowKit Go.Maps Go.Sort Go.Shelf

def keysA_ren : Go.Shelf.Ren := { f := fun | 10 => 216 | n => n, t := fun | 33 => 157 | 23 => 83 | 0 => 0 | 4 => 4 | 26 => 3 | 3 => 36 | n => n, g := fun n => n }

def sortedA_ren : Go.Shelf.Ren := { f := fun | 6 => 207 | 8 => 214 | 9 => 215 | 11 => 218 | 13 => 220 | 12 => 219 | 23 => 230 | 24 => 231 | 14 => 221 | 15 => 222 | 16 => 223 | 17 => 224 | 18 => 225 | 19 => 226 | 20 => 227 | 21 => 228 | 22 => 229 | 25 => 232 | 26 => 233 | 27 => 234 | 28 => 235 | 29 => 236 | 30 => 237 | 31 => 238 | n => n, t := fun | 26 => 3 | 28 => 238 | 24 => 59 | 0 => 0 | 3 => 3 | 37 => 124 | 48 => 259 | 50 => 206 | 4 => 4 | 40 => 252 | 39 => 251 | 45 => 195 | 5 => 5 | 9 => 9 | 51 => 261 | 55 => 265 | 57 => 267 | 58 => 243 | 33 => 157 | n => n, g := fun n => n }

def sortA_ren : Go.Shelf.Ren := { f := fun | 5 => 215 | 8 => 220 | 7 => 219 | 19 => 230 | 20 => 231 | 10 => 221 | 11 => 222 | 12 => 223 | 13 => 224 | 14 => 225 | 15 => 226 | 16 => 227 | 17 => 228 | 18 => 229 | 30 => 232 | 31 => 233 | 32 => 234 | 33 => 235 | 34 => 236 | 35 => 237 | 40 => 238 | n => n, t := fun | 23 => 59 | 25 => 3 | 3 => 3 | 32 => 124 | 22 => 59 | 0 => 0 | 44 => 259 | 46 => 206 | 4 => 4 | 36 => 252 | 35 => 251 | 41 => 195 | 5 => 5 | 9 => 9 | 53 => 261 | 57 => 265 | 63 => 267 | 64 => 243 | n => n, g := fun n => n }

theorem keysA : SlLaysZI.n10 Tryz.prog keysA_ren :=
  { mixed := rfl,
    f10 := ⟨ "maps.Keys[map[int][]byte,int,[]byte]$1", of_decide_eq_true rfl, Tryz.func216.trans (by kernel_rfl)⟩,
    t0 := Tryz.underlying0,
    a0 := Tryz.isAgg0,
    z0 := Tryz.sizeOf0,
    v0 := Tryz.zeroValue0,
    t4 := Tryz.underlying4,
    a4 := Tryz.isAgg4,
    z4 := Tryz.sizeOf4,
    v4 := Tryz.zeroValue4,
    t23 := Tryz.underlying83,
    a23 := Tryz.isAgg83,
    z23 := Tryz.sizeOf83,
    v23 := Tryz.zeroValue83,
    t26 := Tryz.underlying3,
    a26 := Tryz.isAgg3,
    z26 := Tryz.sizeOf3,
    v26 := Tryz.zeroValue3,
    t33 := Tryz.underlying157,
    a33 := Tryz.isAgg157,
    z33 := Tryz.sizeOf157,
    v33 := Tryz.zeroValue157 }

theorem sortedA : SlLaysZI.n6 Tryz.prog sortedA_ren :=
  { mixed := rfl,
    f6 := ⟨ "slices.Sorted[int]", of_decide_eq_true rfl, Tryz.func207.trans (by kernel_rfl)⟩,
    f8 := ⟨ "slices.Collect[int]", of_decide_eq_true rfl, Tryz.func214.trans (by kernel_rfl)⟩,
    f11 := ⟨ "slices.AppendSeq[[]int,int]", of_decide_eq_true rfl, Tryz.func218.trans (by kernel_rfl)⟩,
    t0 := Tryz.underlying0,
    a0 := Tryz.isAgg0,
    z0 := Tryz.sizeOf0,
    v0 := Tryz.zeroValue0,
    t24 := Tryz.underlying59,
    a24 := Tryz.isAgg59,
    z24 := Tryz.sizeOf59,
    v24 := Tryz.zeroValue59,
    t26 := Tryz.underlying3,
    a26 := Tryz.isAgg3,
    z26 := Tryz.sizeOf3,
    v26 := Tryz.zeroValue3,
    t28 := Tryz.underlying238,
    a28 := Tryz.isAgg238,
    z28 := Tryz.sizeOf238,
    v28 := Tryz.zeroValue238,
    i26 := by kernel_rfl }

theorem sortA : SlLaysM.n5 Tryz.prog sortA_ren :=
  { mixed := rfl,
    f5 := ⟨ "slices.Sort[[]int,int]", of_decide_eq_true rfl, Tryz.func215.trans (by kernel_rfl)⟩,
    f7 := ⟨ "slices.pdqsortOrdered[int]", of_decide_eq_true rfl, Tryz.func219.trans (by kernel_rfl)⟩,
    f8 := Tryz.func220.trans (by kernel_rfl),
    f10 := ⟨ "slices.insertionSortOrdered[int]", of_decide_eq_true rfl, Tryz.func221.trans (by kernel_rfl)⟩,
    f11 := ⟨ "slices.heapSortOrdered[int]", of_decide_eq_true rfl, Tryz.func222.trans (by kernel_rfl)⟩,
    f12 := ⟨ "slices.breakPatternsOrdered[int]", of_decide_eq_true rfl, Tryz.func223.trans (by kernel_rfl)⟩,
    f13 := ⟨ "slices.choosePivotOrdered[int]", of_decide_eq_true rfl, Tryz.func224.trans (by kernel_rfl)⟩,
    f14 := ⟨ "slices.reverseRangeOrdered[int]", of_decide_eq_true rfl, Tryz.func225.trans (by kernel_rfl)⟩,
    f15 := ⟨ "slices.partialInsertionSortOrdered[int]", of_decide_eq_true rfl, Tryz.func226.trans (by kernel_rfl)⟩,
    f16 := ⟨ "cmp.Less[int]", of_decide_eq_true rfl, Tryz.func227.trans (by kernel_rfl)⟩,
    f17 := ⟨ "slices.partitionEqualOrdered[int]", of_decide_eq_true rfl, Tryz.func228.trans (by kernel_rfl)⟩,
    f18 := ⟨ "slices.partitionOrdered[int]", of_decide_eq_true rfl, Tryz.func229.trans (by kernel_rfl)⟩,
    f19 := Tryz.func230.trans (by kernel_rfl),
    f20 := Tryz.func231.trans (by kernel_rfl),
    f30 := ⟨ "slices.siftDownOrdered[int]", of_decide_eq_true rfl, Tryz.func232.trans (by kernel_rfl)⟩,
    f31 := Tryz.func233.trans (by kernel_rfl),
    f32 := Tryz.func234.trans (by kernel_rfl),
    f33 := ⟨ "slices.medianAdjacentOrdered[int]", of_decide_eq_true rfl, Tryz.func235.trans (by kernel_rfl)⟩,
    f34 := ⟨ "slices.medianOrdered[int]", of_decide_eq_true rfl, Tryz.func236.trans (by kernel_rfl)⟩,
    f35 := ⟨ "cmp.isNaN[int]", of_decide_eq_true rfl, Tryz.func237.trans (by kernel_rfl)⟩,
    f40 := ⟨ "slices.order2Ordered[int]", of_decide_eq_true rfl, Tryz.func238.trans (by kernel_rfl)⟩,
    t0 := Tryz.underlying0,
    a0 := Tryz.isAgg0,
    z0 := Tryz.sizeOf0,
    v0 := Tryz.zeroValue0,
    t3 := Tryz.underlying3,
    a3 := Tryz.isAgg3,
    z3 := Tryz.sizeOf3,
    v3 := Tryz.zeroValue3,
    t4 := Tryz.underlying4,
    a4 := Tryz.isAgg4,
    z4 := Tryz.sizeOf4,
    v4 := Tryz.zeroValue4,
    t5 := Tryz.underlying5,
    a5 := Tryz.isAgg5,
    z5 := Tryz.sizeOf5,
    v5 := Tryz.zeroValue5,
    t9 := Tryz.underlying9,
    a9 := Tryz.isAgg9,
    z9 := Tryz.sizeOf9,
    v9 := Tryz.zeroValue9,
    t22 := Tryz.underlying59,
    a22 := Tryz.isAgg59,
    z22 := Tryz.sizeOf59,
    v22 := Tryz.zeroValue59,
    t23 := Tryz.underlying59,
    a23 := Tryz.isAgg59,
    z23 := Tryz.sizeOf59,
    v23 := Tryz.zeroValue59,
    t25 := Tryz.underlying3,
    a25 := Tryz.isAgg3,
    z25 := Tryz.sizeOf3,
    v25 := Tryz.zeroValue3,
    t32 := Tryz.underlying124,
    a32 := Tryz.isAgg124,
    z32 := Tryz.sizeOf124,
    v32 := Tryz.zeroValue124,
    t35 := Tryz.underlying251,
    a35 := Tryz.isAgg251,
    z35 := Tryz.sizeOf251,
    v35 := Tryz.zeroValue251,
    t36 := Tryz.underlying252,
    a36 := Tryz.isAgg252,
    z36 := Tryz.sizeOf252,
    v36 := Tryz.zeroValue252,
    t41 := Tryz.underlying195,
    a41 := Tryz.isAgg195,
    z41 := Tryz.sizeOf195,
    v41 := Tryz.zeroValue195,
    t44 := Tryz.underlying259,
    a44 := Tryz.isAgg259,
    z44 := Tryz.sizeOf259,
    v44 := Tryz.zeroValue259,
    t46 := Tryz.underlying206,
    a46 := Tryz.isAgg206,
    z46 := Tryz.sizeOf206,
    v46 := Tryz.zeroValue206,
    t53 := Tryz.underlying261,
    a53 := Tryz.isAgg261,
    z53 := Tryz.sizeOf261,
    v53 := Tryz.zeroValue261,
    t57 := Tryz.underlying265,
    a57 := Tryz.isAgg265,
    z57 := Tryz.sizeOf265,
    v57 := Tryz.zeroValue265,
    t63 := Tryz.underlying267,
    a63 := Tryz.isAgg267,
    z63 := Tryz.sizeOf267,
    v63 := Tryz.zeroValue267,
    t64 := Tryz.underlying243,
    a64 := Tryz.isAgg243,
    z64 := Tryz.sizeOf243,
    v64 := Tryz.zeroValue243 }

theorem sortsA (m : Nat) : AnyZI.SortsIn Tryz.prog sortedA_ren Fence.wide m :=
  ⟨fun blk off cap ss W hH hblk hsz => callsIn_wide.2 (AnyM.slices_Sort_int sortA blk off cap ss W hH hblk hsz),
   fun p cap W => callsIn_wide.2 (AnyM.slices_Sort_int_none sortA p cap W)⟩

theorem sortedLaw : SortedLaw Tryz.prog 207 216 (keysA_ren.t 26) := by
  intro w Bm b nn D0 hBm hcell hown hmax hbytes
  have hseq : SeqGives Fence.wide 2 Tryz.prog 216 #[.pointer (some ⟨Bm, 0, none⟩)] encZ (fun ss => ss.Perm (intKeys D0)) (Maps.size D0) w :=
    AnyZI.keys_gives (ρ := keysA_ren) keysA Fence.wide _ trivial rfl (by omega) Bm b nn D0 w hBm hcell hown
  have cS := AnyZI.sorted_in sortedA Fence.wide 5 trivial trivial trivial trivial rfl (by omega) (sortsA _) (enters_of Tryz.func215 (by kernel_rfl) rfl) 216 #[.pointer (some ⟨Bm, 0, none⟩)] trivial (enters_of Tryz.func216 (by kernel_rfl) rfl) _ _ hmax hbytes _ hseq
  refine (callsIn_wide.1 cS).mono ?_
  rintro e w' ⟨v, ss, h1, h2, h3, h4, h5⟩
  exact ⟨v, ss, _, h1, h2, h3, h4, h5⟩

end Go.Lift
