/- Part 9 of the proof. -/
import Derived.Test.YtdhekhlmdefcnaaGreatDoorPart7
import Derived.Deep.RegionHeld3
import Derived.Shelf.Strings.Builder1
import Derived.Shelf.Strings.Builder2
import Derived.Shelf.Strings.OnBuilder
import Derived.Shelf.Small.Wraps
import Derived.Shelf.Strings.BuilderF
import Derived.Shelf.Strings.BuilderK
import Derived.Shelf.Strings.Builder2Cap
import Derived.Shelf.Strconv.Atoi
import Derived.Shelf.Strconv.Itoa0
import Derived.Shelf.Strconv.Itoa1
import Derived.Shelf.LaysM
import Derived.Shelf.Strconv.Itoa2
import Derived.Shelf.Strconv.Itoa3
import Derived.Shelf.Strconv.AtoiErrFast
import Derived.Shelf.Strconv.ParseIntEmpty
import Derived.Shelf.Strconv.AtoiFail
import Derived.Shelf.Strconv.Clone
import Derived.Shelf.Strconv.SyntaxError
import Derived.Shelf.LaysC
import Derived.Shelf.Strconv.ToError
import Derived.Shelf.Strconv.Lower
import Derived.Shelf.Strconv.ParseUint10
import Derived.Shelf.Strconv.ParseUint10Empty
import Derived.Shelf.Strconv.ParseUint10Any
import Derived.Shelf.Strconv.ParseInt10
import Derived.Shelf.Strconv.AtoiLong
import Derived.Shelf.Strconv.AtoiInnerAll
import Derived.Shelf.Strconv.RangeError
import Derived.Shelf.Strconv.ToErrorRange
import Derived.Shelf.Strconv.AtoiAll
import Derived.Shelf.Strconv.ParseUintEmpty
import Derived.Shelf.Strings.Search1
import Derived.Shelf.Strings.Search2
import Derived.Shelf.Strings.Search3
import Derived.Shelf.Strings.Shaped
import Derived.Shelf.Strings.Prefix
import Derived.Shelf.Unicode.Decode
import Derived.Shelf.Unicode.DecodeSlow
import Derived.Shelf.Unicode.DecodeAny
import Derived.Shelf.Strings.FieldsFuncAny
import Derived.Shelf.Slices.Turned
import Derived.Test.YtdhekhlmdefcnaaGreatDoorProg
import Derived.Test.YtdhekhlmdefcnaaGreatDoorRows
import Derived.WalkKit
import Derived.LaidEql
import Derived.Stop.Asserts
import Derived.RowKitTokens
import Derived.Outline
import Derived.Lib.Hide
import Derived.Deep.DeepCutAuto
set_option maxHeartbeats 16000000
set_option maxRecDepth 1000000
namespace Go
section
variable {p:Prop}
theorem zgT(h:p:=by rintro wx ⟨hs0,hs1,hs2⟩;go_simp):p:=h
theorem zgU(h:p:=by simp<;>omega):p:=h
theorem zgV(h:p:=by go_ret;exact⟨rfl,Below.refl _ _⟩):p:=h
theorem zgW(h:p:=by have IR:=hI (bZ (Nat.le_of_eq hjn.symm));have hnlt:¬(j:Int)<(fs.length:Int):=oM;go_wp2;go_ret;refine⟨⟨_,rfl,λ_=>rfl⟩,?_,HS.out⟩;rw[HE.out];have:=HD.out.sy;rw[IR.out]at this;exact this):p:=h
theorem zgX(h:p:=by rintro wx ⟨hs0,hs1⟩;go_simp):p:=h
theorem zgY(h:p:=by rintro wx hs0;go_simp):p:=h
theorem zgZ(h:p:=by go_ret;exact⟨rfl,rfl⟩):p:=h
theorem zg0(h:p:=by have:k=0\/k=1\/k=2:=oM;rcases this with rfl|rfl|rfl<;>rfl):p:=h
theorem zg1(h:p:=by go_wp2;go_ret;exact⟨⟨_,rfl,λh=>absurd h (om.2 hii)⟩,x,by rw[HE.out];exact HH.out,dx.refl w x⟩):p:=h
theorem zg2(h:p:=by clear h0;go_wp2;go_end0;exact⟨⟨_,rfl,rfl⟩,by rw[HE2.out];exact HI.out,HS.out⟩):p:=h
theorem zg3(h:p:=by go_wp2;go_ret;exact⟨⟨_,rfl,λ_=>rfl⟩,by rw[HE.out];exact HD6.out.sy,S6.out⟩):p:=h
theorem zg4(h:p:=by rw[hh.cell];exact vn fs (λf hf=>(Bt.out f hf).1) j y hy k v hv):p:=h
theorem zg5(h:p:=by have:=hv.symm.trans hgm.vw;injection this with h1 h2 h3;exact⟨h1,h3⟩):p:=h
theorem zg6(h:p:=by rw[World.cell?_alloc_at _ _ _ _ sM];rfl):p:=h
theorem zg7(h:p:=by simpa using hk):p:=h
theorem zg8(h:p:=by decide+kernel):p:=h
theorem zg9(h:p:=by have:=HM.out;omega):p:=h
theorem zha(h:p:=by rw[World.frozen?_alloc_old _ _ t zgU,World.frozen?_alloc_old _ _ t zgU,World.frozen?_alloc_old _ _ t zgU,World.frozen?_alloc_old _ _ t (Nat.ne_of_lt htl)];exact hf0):p:=h
theorem zhb(h:p:=by rw[World.cell?_alloc_lt _ _ t zgU,World.cell?_alloc_lt _ _ t zgU,World.cell?_alloc_lt _ _ t zgU,World.cell?_alloc_lt _ _ t htl];exact ht0):p:=h
theorem zhc(h:p:=by rw[World.cell?_alloc_lt _ _ ⟨0,0,none⟩ zgU,World.cell?_alloc_lt _ _ ⟨0,0,none⟩ hlt];exact hg):p:=h
theorem zhd(h:p:=by rw[World.cell?_alloc_lt _ _ ⟨w.heap.size,0,none⟩ zgU];simp):p:=h
theorem zhe(h:p:=by exact((((k.alloc _).alloc _).alloc _).alloc _).set 0 (I n)):p:=h
theorem zhf(h:p:=by intro e;rw[e]at hlt;simp at hlt):p:=h
theorem zhg(h:p:=by clear h;go_enter func130,ntmps130;go_wp2;exact zgZ):p:=h
end
end Go
