import Derived.Test.YtbpmepgnjanhnaaGreatS3
import Derived.Test.YtbpmepgnjanhnaaGreatRows
set_option linter.unusedVariables false
set_option linter.unusedSimpArgs false
set_option linter.unusedSectionVars false
namespace Go.Proofs.YtbpmepgnjanhnaaGreat
open Go.RowKit
abbrev tyP:Ty:=⟨1,8,false,false,some (.pointer none),none,[]⟩
abbrev tyN:Ty:=⟨1,8,false,false,some .nilFunc,none,[]⟩
def tyRows:List Ty:=[
 ⟨1,0,false,false,some (.tuple #[]),none,[]⟩,
 tyN,
 ⟨1,8,false,false,some (.int .i64 0),none,[]⟩,
 ⟨1,8,false,false,some (.int .i64 0),none,[]⟩,
 ⟨1,1,false,false,some (.bool false),none,[]⟩,
 ⟨1,1,false,false,some (.int .u8 0),none,[]⟩,
 ⟨1,1,false,false,some (.int .u8 0),none,[]⟩,
 ⟨4,24,true,false,some (.agg #[.int .i64 0,.int .i64 0,.bool false,.int .u8 0]),none,[(0,1),(1,1),(2,1),(3,1)]⟩,
 ⟨4,24,true,false,some (.agg #[.int .i64 0,.int .i64 0,.bool false,.int .u8 0]),none,[(0,1),(1,1),(2,1),(3,1)]⟩,
 ⟨1,16,false,true,some (.string ⟨#[]⟩),none,[]⟩,
 ⟨1,16,false,true,some (.string ⟨#[]⟩),none,[]⟩,
 ⟨1,16,false,true,some (.string ⟨#[]⟩),none,[]⟩,
 ⟨1,8,false,false,some (.int .u64 0),none,[]⟩,
 ⟨2,24,true,false,some (.agg #[.string ⟨#[]⟩,.int .u64 0]),none,[(0,1),(1,1)]⟩,
 ⟨2,24,true,false,some (.agg #[.string ⟨#[]⟩,.int .u64 0]),none,[(0,1),(1,1)]⟩,
 tyP,
 tyP,
 tyP,
 ⟨1,8,true,false,some (.agg #[.pointer none]),none,[(0,1)]⟩,
 ⟨1,8,true,false,some (.agg #[.pointer none]),none,[(0,1)]⟩,
 ⟨1,16,false,false,some .nilIface,none,[]⟩,
 ⟨1,4,false,false,some (.int .i32 0),none,[]⟩,
 ⟨1,24,false,false,some (.slice none 0 0),some 68,[]⟩,
 ⟨4,48,true,false,some (.agg #[.int .i64 0,.int .i64 0,.int .i64 0,.slice none 0 0]),none,[(0,1),(1,1),(2,1),(3,1)]⟩,
 ⟨4,48,true,false,some (.agg #[.int .i64 0,.int .i64 0,.int .i64 0,.slice none 0 0]),none,[(0,1),(1,1),(2,1),(3,1)]⟩,
 ⟨1,24,false,false,some (.slice none 0 0),some 3,[]⟩,
 tyN,
 tyN,
 tyN,
 ⟨1,24,false,false,some (.slice none 0 0),some 39,[]⟩,
 ⟨2,16,true,false,some (.agg #[.int .i64 0,.int .i64 0]),none,[(0,1),(1,1)]⟩,
 ⟨2,16,true,false,some (.agg #[.int .i64 0,.int .i64 0]),none,[(0,1),(1,1)]⟩,
 ⟨1,0,false,false,some (.tuple #[.slice none 0 0,.agg #[.int .i64 0,.int .i64 0]]),none,[]⟩,
 tyN,
 tyN,
 tyN,
 ⟨1,24,false,false,some (.slice none 0 0),some 75,[]⟩,
 ⟨1,24,false,false,some (.slice none 0 0),some 56,[]⟩,
 ⟨6,96,true,false,some (.agg #[.int .i64 0,.int .i64 0,.int .i64 0,.slice none 0 0,.slice none 0 0,.slice none 0 0]),none,[(0,4),(4,1),(5,1)]⟩,
 ⟨6,96,true,false,some (.agg #[.int .i64 0,.int .i64 0,.int .i64 0,.slice none 0 0,.slice none 0 0,.slice none 0 0]),none,[(0,4),(4,1),(5,1)]⟩,
 tyN,
 tyN,
 ⟨1,0,false,false,some (.tuple #[.slice none 0 0,.agg #[.int .i64 0,.int .i64 0]]),none,[]⟩,
 tyN,
 tyN,
 tyN,
 tyN,
 tyN,
 tyP,
 ⟨1,0,false,false,some (.tuple #[.pointer none,.agg #[.int .i64 0,.int .i64 0]]),none,[]⟩,
 tyN,
 tyN,
 tyN,
 ⟨1,8,false,false,some (.int .u64 0),none,[]⟩,
 tyN,
 ⟨2,32,true,false,some (.agg #[.int .i64 0,.slice none 0 0]),none,[(0,1),(1,1)]⟩,
 ⟨2,32,true,false,some (.agg #[.int .i64 0,.slice none 0 0]),none,[(0,1),(1,1)]⟩,
 tyN,
 tyN,
 tyN,
 ⟨1,0,false,false,some (.tuple #[.agg #[.int .i64 0,.slice none 0 0],.agg #[.int .i64 0,.int .i64 0]]),none,[]⟩,
 tyN,
 tyN,
 tyN,
 tyN,
 tyN,
 tyN,
 ⟨2,32,true,false,some (.agg #[.int .i64 0,.slice none 0 0]),none,[(0,1),(1,1)]⟩,
 ⟨2,32,true,false,some (.agg #[.int .i64 0,.slice none 0 0]),none,[(0,1),(1,1)]⟩,
 tyN,
 ⟨1,0,false,false,some (.tuple #[.agg #[.int .i64 0,.int .i64 0,.int .i64 0,.slice none 0 0,.slice none 0 0,.slice none 0 0],.agg #[.int .i64 0,.int .i64 0]]),none,[]⟩,
 tyN,
 tyN,
 tyN,
 tyN,
 ⟨1,24,false,false,some (.slice none 0 0),some 102,[]⟩,
 tyP,
 ⟨1,0,false,false,some (.tuple #[.pointer none,.agg #[.int .i64 0,.int .i64 0]]),none,[]⟩,
 tyN,
 ⟨6,64,true,false,some (.agg #[.pointer none,.int .i64 0,.int .i64 0,.int .i64 0,.slice none 0 0,.int .i64 0]),none,[(0,1),(1,4),(5,1)]⟩,
 ⟨6,64,true,false,some (.agg #[.pointer none,.int .i64 0,.int .i64 0,.int .i64 0,.slice none 0 0,.int .i64 0]),none,[(0,1),(1,4),(5,1)]⟩,
 tyN,
 tyN,
 tyN,
 tyN,
 ⟨1,0,false,false,some (.tuple #[.slice none 0 0,.agg #[.int .i64 0,.int .i64 0]]),none,[]⟩,
 tyN,
 tyN,
 ⟨1,24,false,false,some (.slice none 0 0),some 4,[]⟩,
 ⟨1,8,false,false,some (.map none),none,[]⟩,
 ⟨7,104,true,false,some (.agg #[.int .i64 0,.int .i64 0,.int .i64 0,.slice none 0 0,.slice none 0 0,.slice none 0 0,.map none]),none,[(0,4),(4,1),(5,1),(6,1)]⟩,
 ⟨7,104,true,false,some (.agg #[.int .i64 0,.int .i64 0,.int .i64 0,.slice none 0 0,.slice none 0 0,.slice none 0 0,.map none]),none,[(0,4),(4,1),(5,1),(6,1)]⟩,
 tyN,
 tyN,
 tyN,
 tyN,
 tyN,
 tyN,
 tyN,
 tyN,
 tyN,
 ⟨3,40,true,false,some (.agg #[.int .i64 0,.int .i64 0,.slice none 0 0]),none,[(0,1),(1,1),(2,1)]⟩,
 ⟨3,40,true,false,some (.agg #[.int .i64 0,.int .i64 0,.slice none 0 0]),none,[(0,1),(1,1),(2,1)]⟩,
 ⟨0,0,true,false,some (.agg #[]),none,[]⟩,
 ⟨0,0,true,false,some (.agg #[]),none,[]⟩,
 ⟨1,0,false,false,some (.tuple #[.agg #[],.bool false]),none,[]⟩,
 tyN,
 tyP,
 ⟨1,1,true,false,some (.agg #[.bool false]),none,[(0,1)]⟩,
 ⟨1,1,true,false,some (.agg #[.bool false]),none,[(0,1)]⟩,
 tyN,
 tyN,
 tyN,
 tyN,
 ⟨1,24,false,false,some (.slice none 0 0),some 118,[]⟩,
 tyN,
 tyN,
 ⟨1,8,false,false,some (.int .u64 0),none,[]⟩,
 ⟨1,8,false,false,some (.int .u64 0),none,[]⟩,
 tyN,
 tyN,
 tyN,
 ⟨3,24,true,false,some (.agg #[.int .i64 0,.int .i64 0,.int .i64 0]),none,[(0,1),(1,1),(2,1)]⟩,
 ⟨3,24,true,false,some (.agg #[.int .i64 0,.int .i64 0,.int .i64 0]),none,[(0,1),(1,1),(2,1)]⟩,
 ⟨1,0,false,false,some (.tuple #[.int .i64 0,.bool false]),none,[]⟩,
 tyN,
 tyN,
 tyN,
 tyN,
 tyN,
 tyN,
 tyP,
 tyN,
 ⟨1,0,false,false,some (.tuple #[.agg #[.int .i64 0,.slice none 0 0],.bool false]),none,[]⟩,
 tyP,
 ⟨2,16,true,false,some (.agg #[.pointer none,.int .i64 0]),none,[(0,1),(1,1)]⟩,
 ⟨2,16,true,false,some (.agg #[.pointer none,.int .i64 0]),none,[(0,1),(1,1)]⟩,
 tyN,
 ⟨1,0,false,false,some (.tuple #[.slice none 0 0,.bool false]),none,[]⟩,
 tyN,
 tyN,
 tyP,
 tyN,
 ⟨7,88,true,false,some (.agg #[.int .i64 0,.int .i64 0,.int .i64 0,.slice none 0 0,.slice none 0 0,.int .i64 0,.bool false]),none,[(0,4),(4,1),(5,1),(6,1)]⟩,
 ⟨7,88,true,false,some (.agg #[.int .i64 0,.int .i64 0,.int .i64 0,.slice none 0 0,.slice none 0 0,.int .i64 0,.bool false]),none,[(0,4),(4,1),(5,1),(6,1)]⟩,
 tyN,
 tyN,
 tyN,
 tyN,
 tyN,
 ⟨1,0,false,false,some (.tuple #[.slice none 0 0,.slice none 0 0]),none,[]⟩,
 tyN,
 tyN,
 tyN,
 tyN,
 tyN,
 tyN,
 tyP,
 ⟨1,24,false,false,some (.slice none 0 0),some 37,[]⟩,
 ⟨11,168,true,false,some (.agg #[.int .i64 0,.int .i64 0,.int .i64 0,.slice none 0 0,.slice none 0 0,.int .i64 0,.int .i64 0,.int .i64 0,.slice none 0 0,.slice none 0 0,.slice none 0 0]),none,[(0,4),(4,1),(5,6)]⟩,
 ⟨11,168,true,false,some (.agg #[.int .i64 0,.int .i64 0,.int .i64 0,.slice none 0 0,.slice none 0 0,.int .i64 0,.int .i64 0,.int .i64 0,.slice none 0 0,.slice none 0 0,.slice none 0 0]),none,[(0,4),(4,1),(5,6)]⟩,
 ⟨2,16,true,false,some (.agg #[.int .i64 0,.int .i64 0]),none,[(0,1),(1,1)]⟩,
 ⟨1,0,false,false,some (.tuple #[.agg #[.int .i64 0,.int .i64 0],.bool false]),none,[]⟩,
 tyN,
 tyP,
 ⟨11,168,true,false,some (.agg #[.int .i64 0,.int .i64 0,.int .i64 0,.slice none 0 0,.slice none 0 0,.int .i64 0,.int .i64 0,.int .i64 0,.slice none 0 0,.slice none 0 0,.slice none 0 0]),none,[(0,4),(4,1),(5,6)]⟩,
 ⟨11,168,true,false,some (.agg #[.int .i64 0,.int .i64 0,.int .i64 0,.slice none 0 0,.slice none 0 0,.int .i64 0,.int .i64 0,.int .i64 0,.slice none 0 0,.slice none 0 0,.slice none 0 0]),none,[(0,4),(4,1),(5,6)]⟩,
 tyN,
 tyN,
 tyP,
 ⟨8,128,true,false,some (.agg #[.int .i64 0,.int .i64 0,.int .i64 0,.slice none 0 0,.slice none 0 0,.slice none 0 0,.slice none 0 0,.bool false]),none,[(0,6),(6,1),(7,1)]⟩,
 ⟨8,128,true,false,some (.agg #[.int .i64 0,.int .i64 0,.int .i64 0,.slice none 0 0,.slice none 0 0,.slice none 0 0,.slice none 0 0,.bool false]),none,[(0,6),(6,1),(7,1)]⟩,
 tyN,
 tyN,
 tyP,
 ⟨1,24,false,false,some (.slice none 0 0),some 178,[]⟩,
 ⟨5,72,true,false,some (.agg #[.int .i64 0,.int .i64 0,.int .i64 0,.slice none 0 0,.slice none 0 0]),none,[(0,4),(4,1)]⟩,
 ⟨5,72,true,false,some (.agg #[.int .i64 0,.int .i64 0,.int .i64 0,.slice none 0 0,.slice none 0 0]),none,[(0,4),(4,1)]⟩,
 ⟨1,24,false,false,some (.slice none 0 0),some 181,[]⟩,
 tyN,
 ⟨2,48,true,false,some (.agg #[.slice none 0 0,.slice none 0 0]),none,[(0,1),(1,1)]⟩,
 ⟨2,48,true,false,some (.agg #[.slice none 0 0,.slice none 0 0]),none,[(0,1),(1,1)]⟩,
 tyP,
 ⟨1,24,false,false,some (.slice none 0 0),some 186,[]⟩,
 ⟨2,32,true,false,some (.agg #[.slice none 0 0,.bool false]),none,[(0,1),(1,1)]⟩,
 ⟨2,32,true,false,some (.agg #[.slice none 0 0,.bool false]),none,[(0,1),(1,1)]⟩,
 ⟨1,24,false,false,some (.slice none 0 0),some 188,[]⟩,
 ⟨2,48,true,false,some (.agg #[.slice none 0 0,.slice none 0 0]),none,[(0,1),(1,1)]⟩,
 ⟨2,48,true,false,some (.agg #[.slice none 0 0,.slice none 0 0]),none,[(0,1),(1,1)]⟩,
 tyN,
 tyN,
 tyN,
 tyN,
 tyN,
 ⟨1,24,false,false,some (.slice none 0 0),some 195,[]⟩,
 ⟨1,24,false,false,some (.slice none 0 0),some 197,[]⟩,
 tyN,
 ⟨1,24,false,false,some (.slice none 0 0),some 3,[]⟩,
 tyN,
 ⟨1,24,false,false,some (.slice none 0 0),some 202,[]⟩,
 tyN,
 tyN,
 ⟨1,24,false,false,some (.slice none 0 0),some 204,[]⟩,
 ⟨2,48,true,false,some (.agg #[.slice none 0 0,.slice none 0 0]),none,[(0,1),(1,1)]⟩,
 ⟨2,48,true,false,some (.agg #[.slice none 0 0,.slice none 0 0]),none,[(0,1),(1,1)]⟩,
 tyN,
 tyN,
 tyN,
 tyN,
 tyN,
 tyN,
 tyN,
 tyN,
 ⟨1,8,false,false,some (.int .i64 0),none,[]⟩,
 ⟨1,0,false,false,some (.tuple #[.int .i64 0,.int .i64 0]),none,[]⟩,
 tyN,
 tyN,
 tyN,
 tyN,
 tyN,
 ⟨1,4,false,false,some (.int .u32 0),none,[]⟩,
 tyN,
 tyN,
 tyN,
 tyN,
 tyN,
 tyN,
 tyN,
 ⟨1,24,false,false,some (.slice none 0 0),some 231,[]⟩,
 ⟨7,104,true,false,some (.agg #[.int .i64 0,.int .i64 0,.int .i64 0,.slice none 0 0,.slice none 0 0,.int .i64 0,.slice none 0 0]),none,[(0,4),(4,1),(5,1),(6,1)]⟩,
 ⟨7,104,true,false,some (.agg #[.int .i64 0,.int .i64 0,.int .i64 0,.slice none 0 0,.slice none 0 0,.int .i64 0,.slice none 0 0]),none,[(0,4),(4,1),(5,1),(6,1)]⟩,
 ⟨1,24,false,false,some (.slice none 0 0),some 25,[]⟩,
 tyN,
 tyN,
 tyN,
 tyN,
 tyN,
 tyN,
 tyN,
 tyN,
 tyN,
 tyN,
 tyN,
 tyN,
 tyN,
 tyN,
 tyN,
 tyN,
 ⟨1,8,false,false,some (.int .u64 0),none,[]⟩,
 tyN,
 tyN,
 tyN,
 tyP,
 tyN,
 tyN,
 tyN,
 tyN,
 tyN,
 tyN,
 tyP,
 ⟨1,0,false,false,some (.tuple #[.int .i64 0,.int .i64 0]),none,[]⟩,
 tyN,
 tyN,
 ⟨4,40,true,false,some (.agg #[.pointer none,.pointer none,.pointer none,.string ⟨#[]⟩]),none,[(0,1),(1,1),(2,1),(3,1)]⟩,
 ⟨4,40,true,false,some (.agg #[.pointer none,.pointer none,.pointer none,.string ⟨#[]⟩]),none,[(0,1),(1,1),(2,1),(3,1)]⟩,
 ⟨0,0,true,false,some (.agg #[]),none,[]⟩,
 ⟨0,0,true,false,some (.agg #[]),none,[(0,0)]⟩,
 ⟨0,0,true,false,some (.agg #[]),none,[(0,0)]⟩,
 ⟨1,1,false,false,some (.int .u8 0),none,[]⟩,
 ⟨1,1,false,false,some (.int .u8 0),none,[]⟩,
 tyN,
 tyP,
 ⟨1,4,false,false,some (.int .i32 0),none,[]⟩,
 ⟨1,4,false,false,some (.int .i32 0),none,[]⟩,
 ⟨11,48,true,false,some (.agg #[.int .u64 0,.int .u64 0,.int .u32 0,.int .u8 0,.int .u8 0,.int .u8 0,.int .u8 0,.nilFunc,.pointer none,.int .i32 0,.int .i32 0]),none,[(0,1),(1,1),(2,1),(3,1),(4,1),(5,1),(6,1),(7,1),(8,1),(9,1),(10,1)]⟩,
 ⟨11,48,true,false,some (.agg #[.int .u64 0,.int .u64 0,.int .u32 0,.int .u8 0,.int .u8 0,.int .u8 0,.int .u8 0,.nilFunc,.pointer none,.int .i32 0,.int .i32 0]),none,[(0,1),(1,1),(2,1),(3,1),(4,1),(5,1),(6,1),(7,1),(8,1),(9,1),(10,1)]⟩,
 tyP]
theorem Zyk:tyRows.map some=(List.range tyRows.length).map (tyOf Tryz.prog):=by kernel_rfl
def TY:TT Tryz.prog:=⟨tyRows,Zyk⟩
theorem hmix:Tryz.prog.follows .mixedOrders=true:=by kernel_rfl
structure Rule where
 left:Int
 right:List Int
deriving DecidableEq,Inhabited
structure Ac where
 vars:Int
 terms:Int
 start:Int
 Aa:List Rule
deriving DecidableEq,Inhabited
inductive Ad where
 | mk (op n:Int) (l:List Ad)
inductive Tree where
 | mk (rule:Int) (Ab:List Tree)
structure Step where
 g:Ac
 frags:List (List Ad)
 empty:List Tree
structure Zcf where
 code:Int
 at_:Int
deriving DecidableEq,Inhabited
instance:Inhabited Ad:=⟨.mk 0 0 []⟩
instance:Inhabited Tree:=⟨.mk 0 []⟩
def Ad.op:Ad→Int|.mk o _ _=>o
def Ad.n:Ad→Int|.mk _ n _=>n
def Ad.l:Ad→List Ad|.mk _ _ l=>l
def Tree.rule:Tree→Int|.mk r _=>r
def Tree.Ab:Tree→List Tree|.mk _ k=>k
def Za3 (t:Bool) (r:Rule):D:=.agg [iD r.left,ints t r.right]
abbrev ZaS (t:Bool) (rs:List Rule):D:=.sl t 2 (rs.map (Za3 t))
def Zbr (t:Bool) (g:Ac):D:=.agg [iD g.vars,iD g.terms,iD g.start,ZaS t g.Aa]
mutual
def ZaN (t:Bool):Ad→D
 | .mk o n l=>.agg [iD o,iD n,.sl t 3 (ZeD t l)]
def ZeD (t:Bool):List Ad→List D
 | []=>[]
 | f::l=>ZaN t f::ZeD t l
end
abbrev Zah (t:Bool) (l:List Ad):D:=.sl t 3 (l.map (ZaN t))
mutual
def ZaV (t:Bool):Tree→D
 | .mk r k=>.agg [iD r,.sl t 2 (Zji t k)]
def Zji (t:Bool):List Tree→List D
 | []=>[]
 | x::l=>ZaV t x::Zji t l
end
abbrev Zan (t:Bool) (l:List Tree):D:=.sl t 2 (l.map (ZaV t))
theorem Zcq (t:Bool):∀ l:List Ad,ZeD t l=l.map (ZaN t)
 | []=>rfl
 | f::l=>by simp[ZeD,Zcq t l]
theorem ZiS (t:Bool):∀ l:List Tree,Zji t l=l.map (ZaV t)
 | []=>rfl
 | f::l=>by simp[Zji,ZiS t l]
theorem ZA7 (t:Bool) (f:Ad):ZaN t f=.agg [iD f.op,iD f.n,Zah t f.l]:=by
 cases f;simp[ZaN,Zcq,Ad.op,Ad.n,Ad.l]
theorem Zdy (t:Bool) (x:Tree):ZaV t x=.agg [iD x.rule,Zan t x.Ab]:=by
 cases x;simp[ZaV,ZiS,Tree.rule,Tree.Ab]
def ZdG (t:Bool) (s:Step):D:=.agg [iD s.g.vars,iD s.g.terms,iD s.g.start,ZaS t s.g.Aa,.sl t 1 (s.frags.map (Zah t)),Zan t s.empty]
def Zbu (f:Zcf):D:=.agg [iD f.code,iD f.at_]
theorem Zyl (t:Bool) (r:Rule):(Za3 t r).view=Za3 true r:=by simp[Za3,D.view,D.views,Zd6,iD]
theorem Zvl (t:Bool) (rs:List Rule):D.views (rs.map (Za3 t))=rs.map (Za3 true):=views_map (Zyl t) rs
mutual
theorem Zlb (t:Bool):∀ f:Ad,(ZaN t f).view=ZaN true f
 | .mk o n l=>by simp[ZaN,D.view,D.views,ZmP t l,iD]
theorem ZmP (t:Bool):∀ l:List Ad,D.views (ZeD t l)=ZeD true l
 | []=>rfl
 | f::l=>by simp[ZeD,D.views,Zlb t f,ZmP t l]
end
mutual
theorem Zlc (t:Bool):∀ f:Tree,(ZaV t f).view=ZaV true f
 | .mk o l=>by simp[ZaV,D.view,D.views,ZmQ t l,iD]
theorem ZmQ (t:Bool):∀ l:List Tree,D.views (Zji t l)=Zji true l
 | []=>rfl
 | f::l=>by simp[Zji,D.views,Zlc t f,ZmQ t l]
end
theorem Zgq (xs:List Int):D.cleans (xs.map iD):=Zi5 ZBC xs
theorem Zvm (r:Rule):(Za3 false r).clean:=⟨trivial,⟨rfl,Zgq _⟩,trivial⟩
theorem Zg0 (rs:List Rule):D.cleans (rs.map (Za3 false)):=Zi5 Zvm rs
mutual
theorem Zvn:∀ f:Ad,(ZaN false f).clean
 | .mk o n l=>⟨trivial,trivial,⟨rfl,Zg1 l⟩,trivial⟩
theorem Zg1:∀ l:List Ad,D.cleans (ZeD false l)
 | []=>trivial
 | f::l=>⟨Zvn f,Zg1 l⟩
end
mutual
theorem Zvo:∀ f:Tree,(ZaV false f).clean
 | .mk o l=>⟨trivial,⟨rfl,Zg2 l⟩,trivial⟩
theorem Zg2:∀ l:List Tree,D.cleans (Zji false l)
 | []=>trivial
 | f::l=>⟨Zvo f,Zg2 l⟩
end
abbrev Zbz (t:Bool) (x:Tree):D:=.agg [iD x.rule,Zan t x.Ab]
theorem Zdz (t:Bool) (x:Tree):ZaV t x=Zbz t x:=Zdy t x
abbrev Zof (t:Bool) (x:Ad):D:=.agg [iD x.op,iD x.n,Zah t x.l]
theorem Zcr (t:Bool) (x:Ad):ZaN t x=Zof t x:=ZA7 t x
inductive Zgr:List D→List D→Prop
 | Aa (t:Bool) (rs:List Rule):Zgr (rs.map (Za3 t)) (rs.map (Za3 true))
 | trees (t:Bool) (rs:List Tree):Zgr (rs.map (ZaV t)) (rs.map (ZaV true))
 | frags (t:Bool) (rs:List Ad):Zgr (rs.map (ZaN t)) (rs.map (ZaN true))
 | tree1 (t:Bool) (x:Tree):Zgr [Zbz t x] [Zbz true x]
 | frag1 (t:Bool) (x:Ad):Zgr [Zof t x] [Zof true x]
theorem ZaI {xs ys:List D} (h:Zgr xs ys):D.views xs=ys:=by
 cases h with
 | Aa t rs=>exact Zvl t rs
 | trees t rs=>exact views_map (Zlc t) rs
 | frags t rs=>exact views_map (Zlb t) rs
 | tree1 t x=>rw[←Zdz,←Zdz,D.views,D.views,Zlc]
 | frag1 t x=>rw[←Zcr,←Zcr,D.views,D.views,Zlb]
theorem Zef (l:List Tree):D.cleans (l.map (ZaV false)):=by rw[←ZiS];exact Zg2 l
theorem Zeg (l:List Ad):D.cleans (l.map (ZaN false)):=by rw[←Zcq];exact Zg1 l
theorem ZA8 {E:Env} {b:Nat}:¬ Live E [] b:=by rintro⟨k,hk⟩;simp[Ai,Ah] at hk
theorem Zog {E E':Env} {h h':Hp} {M:Bars} {w:World}:∀ {ds:List D} {us:List Value},V.Reps E h M w (ds.map V.d) us→V.Reps E' h' M w (ds.map V.d) us
 | [],us,r=>by simpa[V.Reps] using r
 | d::ds,us,r=>by
  simp only[Hm,V.Reps,V.Rep] at r ⊢;obtain⟨x,y,rfl,h1,h2⟩:=r;exact⟨x,y,rfl,h1,Zog h2⟩
theorem ZmR {E:Env} {h:Hp} {M:Bars} {w:World}:∀ {a b:List V} {us:List Value},V.Reps E h M w (a++b) us→∃ u1 u2,us=u1++u2∧V.Reps E h M w a u1∧V.Reps E h M w b u2
 | [],b,us,r=>⟨[],us,rfl,by simp[V.Reps],r⟩
 | v::a,b,us,r=>by
  simp only[Hv,V.Reps] at r;obtain⟨x,y,rfl,h1,h2⟩:=r;obtain⟨u1,u2,rfl,k1,k2⟩:=ZmR h2;exact⟨x::u1,u2,rfl,by simp only[V.Reps];exact⟨x,u1,rfl,h1,k1⟩,k2⟩
theorem Zjj:∀ (a b:List V),V.keyss (a++b)=V.keyss a++V.keyss b
 | [],b=>rfl
 | v::a,b=>by simp[V.keyss,Zjj a b]
theorem Zoh:∀ (ds:List D),V.keyss (ds.map V.d)=[]
 | []=>rfl
 | d::ds=>by simp[V.keyss,V.keys,Zoh ds]
theorem Af.nilArg {P:Program} {f:FuncId} {pre post:List D} {e sz n:Nat} {ys:List D} (hA:Af P f (pre.map V.d++.own 1000 0::post.map V.d) [(1000,.row e sz [])] (.own 1000 n) [(1000,.row e sz ys)]) :
  Af P f (pre.map V.d++.d (.raw (.slice none 0 0))::post.map V.d) [] (.own 900 n) [(900,.row e sz ys)]:=by
 refine⟨hA.ok,fun E w us o H hr hk ho hs=>?_⟩
 let E1:Env:=⟨E.blk,fun j=>if j=1000 then .slice none 0 0 else E.row j,E.fp⟩
 have hl1:∀ b,¬ Live E1 [(1000,.row e sz [])] b:=by
  rintro b ⟨k,hk⟩;unfold Ai at hk;by_cases e:k=1000
  ·subst e;rw[Zai] at hk;simp[E1,obOf] at hk
  ·rw[Zar _ _ (Ne.symm e)] at hk;simp[Ah] at hk
 have hb0:bars E [] o=o:=by funext t b;simp[bars,ZA8]
 have hb1:bars E1 [(1000,.row e sz [])] o=o:=by funext t b;simp[bars,hl1]
 have H1:HRep E1 [(1000,.row e sz [])] o w:=by
  refine⟨fun k ob hk=>?_,fun k k' b h1=>absurd ⟨k,h1⟩ (hl1 b),fun k ob hk=>?_⟩
  ·by_cases e:k=1000
   ·subst e;rw[Zai] at hk;cases hk;simp only[ObRep,RowAt];exact⟨by simp,.inl ⟨none,by simp[E1]⟩⟩
   ·rw[Zar _ _ (Ne.symm e)] at hk;simp[Ah] at hk
  ·by_cases e:k=1000
   ·subst e;rw[Zai] at hk;cases hk;simp[Ob.keys]
   ·rw[Zar _ _ (Ne.symm e)] at hk;simp[Ah] at hk
 obtain⟨u1,u2,rfl,r1,r2⟩:=ZmR hr;simp only[V.Reps,V.Rep,D.RepV,D.Rep,Hz,HA] at r2;obtain⟨x,y,rfl,⟨rfl,_⟩,r3⟩:=r2;rw[hb0] at r1 r3;have hr1:V.Reps E1 [(1000,.row e sz [])] (bars E1 [(1000,.row e sz [])] o) w (pre.map V.d++.own 1000 0::post.map V.d) (u1++.slice none 0 0::y):=by
  rw[hb1];refine V.Reps.append (Zog r1) ?_;simp only[V.Reps,V.Rep];exact⟨_,_,rfl,⟨0,.inl ⟨e,sz,[],Zai _ _ _,rfl⟩,Hg _,rfl,fun _=>by simp[E1]⟩,Zog r3⟩
 refine (hA.run E1 w _ o H1 hr1 (fun k hk=>?_) (fun t b hb=>⟨(ho t b hb).1,hl1 b⟩) hs).mono ?_
 ·rw[Zjj,V.keyss,Zoh,Zoh] at hk;simp only[V.keys,H3,Ht,Gw] at hk;subst hk;rw[Zai];rfl
 rintro en w' ⟨E',u,rfl,H',hu,_,hX,hH,hF⟩
 let E2:Env:=⟨E'.blk,fun j=>if j=900 then E'.row 1000 else E'.row j,E'.fp⟩
 have hblk:∀ b,Ai E2 [(900,Ob.row e sz ys)] 900 b↔Ai E' [(1000,Ob.row e sz ys)] 1000 b:=fun b=>by
  unfold Ai;rw[Zai,Zai];simp[E2]
 have hno:∀ {E:Env} {j i:Nat} {ob:Ob} {b:Nat},Ai E [(j,ob)] i b→i=j:=fun {E j i ob b} hb=>by
  by_cases e:i=j
  ·exact e
  ·unfold Ai at hb;rw[Zar _ _ (Ne.symm e)] at hb;simp[Ah] at hb
 have hlive:∀ b,Live E2 [(900,Ob.row e sz ys)] b↔Live E' [(1000,Ob.row e sz ys)] b:=fun b =>
  ⟨fun ⟨k,hk⟩=>by obtain rfl:=hno hk;exact⟨1000,(hblk b).1 hk⟩,fun ⟨k,hk⟩=>by obtain rfl:=hno hk;exact⟨900,(hblk b).2 hk⟩⟩
 have hbars:bars E2 [(900,Ob.row e sz ys)] o=bars E' [(1000,Ob.row e sz ys)] o:=by
  funext t b;simp only[bars,hlive b]
 refine⟨E2,u,rfl,⟨fun k ob hk=>?_,fun k k' b h1 h2=>(hno h1).trans (hno h2).symm,fun k ob hk=>?_⟩,?_,?_,hX.mono (fun b hb=>absurd hb (hl1 b)),fun k hk hs=>?_,fun k b hb=>?_⟩
 ·by_cases e:k=900
  ·subst e;rw[Zai] at hk;cases hk;have:=H'.obs 1000 _ (Zai _ _ _);simp only[ObRep] at this ⊢;rw[hbars];simpa[E2] using this
  ·rw[Zar _ _ (Ne.symm e)] at hk;simp[Ah] at hk
 ·by_cases e:k=900
  ·subst e;rw[Zai] at hk;cases hk;simp[Ob.keys]
  ·rw[Zar _ _ (Ne.symm e)] at hk;simp[Ah] at hk
 ·simp only[V.Rep] at hu ⊢;obtain⟨m,h1,h2,h3,h4⟩:=hu;have h5:=Za9 h1 (.inl ⟨e,sz,ys,Zai _ _ _,rfl⟩);exact⟨m,.inl ⟨e,sz,ys,Zai _ _ _,h5.symm⟩,h2,h3,fun hm=>by simpa[E2] using h4 hm⟩
 ·intro k hk;simp[V.keys] at hk;subst hk;rw[Zai];rfl
 ·by_cases e:k=900
  ·omega
  ·rw[Zar _ _ (Ne.symm e)] at hs;simp[Ah] at hs
 ·obtain rfl:=hno hb;rcases hF 1000 b ((hblk b).1 hb) with h1|h1
  ·exact absurd h1 (hl1 b)
  ·exact .inr h1
theorem Af.le {P:Program} {f:FuncId} {args args':List V} {h h':Hp} {r:V} (hA:Af P f args' h r h') (hl:VLes args args'):Af P f args h r h' :=
 ⟨hA.ok,fun E w us o H hr hk ho hs=>hA.run E w us o H (hl.reps hr) (by rw[←hl.keys];exact hk) ho hs⟩
def Zgs (P:Program) (st f m fo:Nat):Prop:=∀ (l:List Value) (u:Value) (w:World),l.length=m→l[fo]? = some u→(Instr.field st (.agg l.toArray) f).run P w=.ok u w
theorem Zoi {P:Program} {st f m fo ft:Nat} {fs:Array Field} {fd:Field} {d:TypeDesc} (hu:P.underlying st=some (.struct fs)) (hf:fs[f]? = some fd) (ho:fd.offset=fo) (hft:fd.type=ft) (hd:P.underlying ft=some d) (hr:d.isRow=false):Zgs P st f m fo:=by
 intro l u w hl hg;subst ho;subst hft;have hagg:(isAgg fd.type).run P w=.ok false w:=by
  unfold isAgg;rw[Sem.run_bind,run_underlying hd w];cases d <;> simp_all [TypeDesc.isRow]
 simp only[Instr.field,Sem.run_bind,run_underlying hu,Result.andThen_ok,hf];simp[part,asAgg,Sem.run_bind,hagg,hg]
section
variable {P:Program} {n:Nat} {dr:Bool} {ops:Array Oper} {rest:List Oper} {log:List Rec} {K:Exit→Fr→Hp→Prop} {fr:Fr} {h:Hp}
variable {d:Nat} {ty:TypeId} {pos:String} {after:Array Edge} {g:Option (Nat×Bool)}
def Zym:V→Bool
 | .d (.agg _)=>true
 | .agg _=>true
 | _=>false
theorem ZCY {x:Operand} {st f m fo:Nat} {v c:V} {cs:List V} (hdn:Nat.blt d n=true) (hg:gOk ops fr g) (hF:Zgs P st f m fo) (hx:oev fr x=v) (h1:ZaP x=true) (hv:Zym v=true) (hcs:v.cellsOf=some cs) (hm:cs.length=m) (hc:cs[fo]? = some c)
  (hr:dops P n dr ops rest (⟨(gIns ops g++ZaG x v).map Prod.fst,[d],[],[]⟩::log) K ((d,c)::fr) h):dops P n dr ops (⟨some d,.field st x f,ty,pos,after,g⟩::rest) log K fr h:=by
 refine ZaA (ins:=gIns ops g++ZaG x v) (objs:=[]) (v:=c) (upd:=[]) (LStep.pure rfl hdn rfl hg (ZaG x v) [] c fun G E fr' h' a w C hi _=>?_) (fun p hp=>?_) (by simp) hr
 ·obtain⟨r1,r2⟩:=C.oev (ZcE hx hi) (Zao h1);obtain⟨c1,_⟩:=V.cells_rep hcs r1;obtain⟨u,hu,hur⟩:=c1.get hc;have hagg:∃ us:List Value,a.eval x=.agg us.toArray:=by
   unfold Zym at hv;split at hv
   ·simp only[V.Rep,D.RepV] at r1;obtain⟨us,h1,_⟩:=r1;exact⟨us,h1⟩
   ·simp only[V.Rep] at r1;obtain⟨us,h1,_⟩:=r1;exact⟨us,h1⟩
   ·cases hv
  obtain⟨us,hus⟩:=hagg;rw[hus] at hu c1;have hl:=c1.length;simp only[Value.cells] at hu hl;refine⟨u,?_,hur,fun k hk=>r2 k ?_⟩
  ·simp only[execOp,hus,Sem.run_bind,hF us u w (by simpa[hm] using hl) (by simpa using hu),Result.andThen_ok,Sem.run_pure]
  ·exact ZfE hcs k (V.keyss_mem.2 ⟨c,Jo hc,hk⟩)
 ·rcases List.mem_append.1 hp with hp|hp
  ·exact ZdL hg p hp
  ·exact ZbN hx p hp
end
def orU (a c:Int):Int:=((a.toNat ||| c.toNat:Nat):Int)
def andU (a c:Int):Int:=((a.toNat &&& c.toNat:Nat):Int)
def shrU (a c:Int):Int:=((a.toNat >>> c.toNat:Nat):Int)
def shlU (a c:Int):Int:=((a.toNat <<< c.toNat:Nat):Int)
def minI (a c:Int):Int:=if c < a then c else a
def maxI (a c:Int):Int:=if a < c then c else a
section
variable {P:Program} {n:Nat} {dr:Bool} {ops:Array Oper} {rest:List Oper} {log:List Rec} {K:Exit→Fr→Hp→Prop} {fr:Fr} {h:Hp}
variable {d:Nat} {ty:TypeId} {pos:String} {after:Array Edge} {g:Option (Nat×Bool)}
theorem Zyn {x y:Operand} {yt xt:TypeId} {bop:BinOp} {k k':IntKind} {a c:Int} {u:Value} (hu:u.oneCell'=true) (hrun:∀ w,(binOp bop xt (.int k a) (.int k' c)).run P w=.ok u w)
  (hdn:Nat.blt d n=true) (hg:gOk ops fr g) (hx:oev fr x=.d (.raw (.int k a))) (hy:oev fr y=.d (.raw (.int k' c)))
  (hr:dops P n dr ops rest (⟨(gIns ops g++Zaq [x,y] (raws [.int k a,.int k' c])).map Prod.fst,[d],[],[]⟩::log) K ((d,.d (.raw u))::fr) h):dops P n dr ops (⟨some d,.binOp bop xt x y yt,ty,pos,after,g⟩::rest) log K fr h:=by
 refine Zr9 [x,y] [.int k a,.int k' c] u (fun ρ w hρ=>?_) hu hdn hg ⟨hx,hy,trivial⟩ ?_ hr
 ·simp only[Hm,HF,Hz,HA] at hρ;have e1:(eqGuard bop xt x y (ρ x) (ρ y)).run P w=.ok () w:=by
   rw[hρ.1,hρ.2];unfold eqGuard;cases bop <;> rfl
  simp only[execOp,Sem.run_bind,e1,Result.andThen_ok];rw[hρ.1,hρ.2,hrun];simp
 ·simp[Zap hx rfl,Zap hy rfl]
theorem ZtC {a:Int} (h1:0≤a) (h2:a < 18446744073709551616):(BitVec.ofInt IntKind.u64.bits a).toNat=a.toNat:=by
 show (BitVec.ofInt 64 a).toNat=a.toNat;rw[BitVec.toNat_ofInt];congr 1;omega
theorem Zld {m:Nat} (h:m < 18446744073709551616):IntKind.u64.wrap (m:Int)=(m:Int):=IntWalk.u64_in _ ⟨by omega,by omega⟩
theorem d_or {x y:Operand} {xt yt:TypeId} {a c:Int} (hdn:Nat.blt d n=true:=by exact rfl) (hg:gOk ops fr g:=by exact Vf) (hx:oev fr x=.d (.raw (.int .u64 a)):=by exact rfl) (hy:oev fr y=.d (.raw (.int .u64 c)):=by exact rfl) (h1:0≤a:=by exact Vm) (h2:a < 18446744073709551616:=by exact Vm) (h3:0≤c:=by exact Vm) (h4:c < 18446744073709551616:=by exact Vm)
  (hr:dops P n dr ops rest (⟨(gIns ops g++Zaq [x,y] (raws [.int .u64 a,.int .u64 c])).map Prod.fst,[d],[],[]⟩::log) K ((d,.d (.raw (.int .u64 (orU a c))))::fr) h):dops P n dr ops (⟨some d,.binOp .or xt x y yt,ty,pos,after,g⟩::rest) log K fr h:=by
 refine Zjo rfl (fun w=>?_) hdn hg hx hy hr;simp only[binOp,Op.intBits,ne_eq,not_true_eq_false,if_false,Sem.run_pure,BitVec.toNat_or];rw[ZtC h1 h2,ZtC h3 h4,Zld (Nat.or_lt_two_pow (n:=64) (by omega) (by omega))];rfl
theorem ZE2 {x y:Operand} {xt yt:TypeId} {a c:Int} (hdn:Nat.blt d n=true:=by exact rfl) (hg:gOk ops fr g:=by exact Vf) (hx:oev fr x=.d (.raw (.int .u64 a)):=by exact rfl) (hy:oev fr y=.d (.raw (.int .u64 c)):=by exact rfl) (h1:0≤a:=by exact Vm) (h2:a < 18446744073709551616:=by exact Vm) (h3:0≤c:=by exact Vm) (h4:c < 18446744073709551616:=by exact Vm)
  (hr:dops P n dr ops rest (⟨(gIns ops g++Zaq [x,y] (raws [.int .u64 a,.int .u64 c])).map Prod.fst,[d],[],[]⟩::log) K ((d,.d (.raw (.int .u64 (andU a c))))::fr) h):dops P n dr ops (⟨some d,.binOp .and xt x y yt,ty,pos,after,g⟩::rest) log K fr h:=by
 refine Zjo rfl (fun w=>?_) hdn hg hx hy hr;simp only[binOp,Op.intBits,ne_eq,not_true_eq_false,if_false,Sem.run_pure,BitVec.toNat_and];rw[ZtC h1 h2,ZtC h3 h4,Zld (Nat.and_lt_two_pow (n:=64) _ (by omega))];rfl
theorem ZE3 {x y:Operand} {xt yt:TypeId} {a c:Int} {k:IntKind} (hdn:Nat.blt d n=true:=by exact rfl) (hg:gOk ops fr g:=by exact Vf) (hx:oev fr x=.d (.raw (.int .u64 a)):=by exact rfl) (hy:oev fr y=.d (.raw (.int k c)):=by exact rfl) (h1:0≤a:=by exact Vm) (h3:0≤c:=by exact Vm) (h4:c≤64:=by exact Vm)
  (hr:dops P n dr ops rest (⟨(gIns ops g++Zaq [x,y] (raws [.int .u64 a,.int k c])).map Prod.fst,[d],[],[]⟩::log) K ((d,.d (.raw (.int .u64 (shrU a c))))::fr) h):dops P n dr ops (⟨some d,.binOp .shr xt x y yt,ty,pos,after,g⟩::rest) log K fr h:=by
 refine Zyn rfl (fun w=>?_) hdn hg hx hy hr;simp only[binOp];rw[shift_shr .u64 k a c h3 (by simpa[IntKind.bits] using h4)];have e:shrU a c=a / 2 ^ c.toNat:=by
  rw[shrU,Nat.shiftRight_eq_div_pow,JH,Int.toNat_of_nonneg h1];simp
 rw[e];rfl
theorem ZE4 {x y:Operand} {xt yt:TypeId} {a c:Int} {k:IntKind} (hdn:Nat.blt d n=true:=by exact rfl) (hg:gOk ops fr g:=by exact Vf) (hx:oev fr x=.d (.raw (.int .u64 a)):=by exact rfl) (hy:oev fr y=.d (.raw (.int k c)):=by exact rfl) (h1:a=1:=by exact rfl) (h3:0≤c:=by exact Vm) (h4:c < 64:=by exact Vm)
  (hr:dops P n dr ops rest (⟨(gIns ops g++Zaq [x,y] (raws [.int .u64 a,.int k c])).map Prod.fst,[d],[],[]⟩::log) K ((d,.d (.raw (.int .u64 (shlU 1 c))))::fr) h):dops P n dr ops (⟨some d,.binOp .shl xt x y yt,ty,pos,after,g⟩::rest) log K fr h:=by
 subst h1;refine Zyn rfl (fun w=>?_) hdn hg hx hy hr;simp only[binOp];rw[shift_shl .u64 k 1 c h3 (by simp[IntKind.bits];omega)];have e:(1:Int) * (2:Int) ^ c.toNat=((1 <<< c.toNat:Nat):Int):=by
  rw[Nat.shiftLeft_eq];simp
 have hl:(1 <<< c.toNat:Nat) < 18446744073709551616:=by
  rw[Nat.shiftLeft_eq,Nat.one_mul];exact Nat.pow_lt_pow_right (a:=2) (n:=64) (by decide) (by omega)
 rw[e,Zld hl];rfl
theorem ZE5 {x y:Operand} {xt yt:TypeId} {a c:Int} {k:IntKind} (hdn:Nat.blt d n=true:=by exact rfl) (hg:gOk ops fr g:=by exact Vf) (hx:oev fr x=.d (.raw (.int k a)):=by exact rfl) (hy:oev fr y=.d (.raw (.int k c)):=by exact rfl) (h1:0≤a:=by exact Vm) (h3:0 < c:=by exact Vm)
  (hr:dops P n dr ops rest (⟨(gIns ops g++Zaq [x,y] (raws [.int k a,.int k c])).map Prod.fst,[d],[],[]⟩::log) K ((d,.d (.raw (.int k (a % c))))::fr) h):dops P n dr ops (⟨some d,.binOp .rem xt x y yt,ty,pos,after,g⟩::rest) log K fr h:=by
 refine Zjo rfl (fun w=>?_) hdn hg hx hy hr;simp only[binOp,Op.intDiv,ne_eq,not_true_eq_false,if_false];rw[Ha (by omega)];simp[Int.tmod_eq_emod_of_nonneg h1]
theorem ZE6 {x y:Operand} {xt yt:TypeId} {a c:Int} (hdn:Nat.blt d n=true:=by exact rfl) (hg:gOk ops fr g:=by exact Vf) (hx:oev fr x=I a:=by exact rfl) (hy:oev fr y=I c:=by exact rfl) (h1:0≤a:=by exact Vm) (h2:a≤9223372036854775807:=by exact Vm) (h3:0 < c:=by exact Vm)
  (hr:dops P n dr ops rest (⟨(gIns ops g++Zaq [x,y] (raws [.int .i64 a,.int .i64 c])).map Prod.fst,[d],[],[]⟩::log) K ((d,I (a / c))::fr) h):dops P n dr ops (⟨some d,.binOp .quo xt x y yt,ty,pos,after,g⟩::rest) log K fr h:=by
 refine Zjo (k:=.i64) rfl (fun w=>?_) hdn hg hx hy hr;simp only[binOp,Op.intDiv,ne_eq,not_true_eq_false,if_false];rw[Ha (by omega)];have e:a.tdiv c=a / c:=Int.tdiv_eq_ediv_of_nonneg h1;have h4:0≤a / c:=Int.ediv_nonneg h1 (by omega);have h5:a / c≤a:=Int.ediv_le_self _ h1;simp only[e,Zqx (show -9223372036854775808≤a / c by omega) (show a / c≤9223372036854775807 by omega),Sem.run_pure]
theorem Zqe {ρ:Operand→Value} {b:Builtin} {xs:List Operand} {ts:Array TypeId} {w:World} {v:Value} {m:Sem Value} (hb:∀ cs,builtin b ts ty cs (xs.map ρ).toArray=(do pure (.value (←m)))) (h:m.run P w=.ok v w) :
  (execOp ρ ⟨some d,.call { callee:=.builtin b,args:=xs.toArray,argTypes:=ts },ty,pos,after,g⟩).run P w=.ok (.value v) w:=by
 simp only[execOp,resolve,Sem.run_bind,Sem.run_pure,Result.andThen_ok,invoke,List.map_toArray,hb,h]
theorem ZE7 {x y:Operand} {ts:Array TypeId} {k:IntKind} {a c:Int} (hdn:Nat.blt d n=true:=by exact rfl) (hg:gOk ops fr g:=by exact Vf) (hx:oev fr x=.d (.raw (.int k a)):=by exact rfl) (hy:oev fr y=.d (.raw (.int k c)):=by exact rfl)
  (hr:dops P n dr ops rest (⟨(gIns ops g++Zaq [x,y] (raws [.int k a,.int k c])).map Prod.fst,[d],[],[]⟩::log) K ((d,.d (.raw (.int k (minI a c))))::fr) h):dops P n dr ops (⟨some d,.call { callee:=.builtin .min,args:=#[x,y],argTypes:=ts },ty,pos,after,g⟩::rest) log K fr h:=by
 refine Zr9 [x,y] [.int k a,.int k c] _ (fun ρ w hρ=>?_) rfl hdn hg ⟨hx,hy,trivial⟩ (by simp[Zap hx rfl,Zap hy rfl]) hr;exact Zqe (xs:=[x,y]) (fun cs=>rfl) (by rw[hρ];rfl)
theorem ZE8 {x y:Operand} {ts:Array TypeId} {k:IntKind} {a c:Int} (hdn:Nat.blt d n=true:=by exact rfl) (hg:gOk ops fr g:=by exact Vf) (hx:oev fr x=.d (.raw (.int k a)):=by exact rfl) (hy:oev fr y=.d (.raw (.int k c)):=by exact rfl)
  (hr:dops P n dr ops rest (⟨(gIns ops g++Zaq [x,y] (raws [.int k a,.int k c])).map Prod.fst,[d],[],[]⟩::log) K ((d,.d (.raw (.int k (maxI a c))))::fr) h):dops P n dr ops (⟨some d,.call { callee:=.builtin .max,args:=#[x,y],argTypes:=ts },ty,pos,after,g⟩::rest) log K fr h:=by
 refine Zr9 [x,y] [.int k a,.int k c] _ (fun ρ w hρ=>?_) rfl hdn hg ⟨hx,hy,trivial⟩ (by simp[Zap hx rfl,Zap hy rfl]) hr;exact Zqe (xs:=[x,y]) (fun cs=>rfl) (by rw[hρ];rfl)
end
end Go.Proofs.YtbpmepgnjanhnaaGreat
