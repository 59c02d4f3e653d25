/- What the functions compute, part 1. No conditions. -/
import Derived.Test.YtnbehmbjoanfoaaGm4
import Derived.Test.YtnbehmbjoanfoaaRows
import Derived.Lib.Strings
import Derived.Lib.Slices
import Derived.Lib.SliceRun
import Derived.Lib.Walk
import Derived.WalkKit
import Derived.Lib.Bytealg
import Derived.Deep.RegionLaw
import Derived.Lib.AppendZeros
import Derived.Laws.Externs
namespace Go.Proofs.Ytnbehmbjoanfoaa
open Go Go.Gm
def bd:yg:={ code:=[(2,(.i .i64)),(3,(.i .i64)),(4,.bool),(5,(.i .u8)),(6,(.i .u8)),(9,.str),(10,.str),(11,.str),(12,(.i .u64)),(21,(.i .i32)),(22,(.sl .event)),(24,.cZ),(27,(.sl .event)),(29,.cZ),(33,(.sl (.i .u8))),(35,(.sl .item)),(37,.store),(39,(.sl (.sl .item))),(40,(.sl .aw)),(42,.aD),(43,(.sl .note)),(45,.order),(48,(.sl .str)),(50,.item),(61,(.sl .item)),(80,(.sl .aw)),(81,.aD),(82,(.sl .note)),(84,.order),(86,.item),(94,.event),(111,.event),(122,(.sl (.i .i64))),(132,.aw),(137,.note),(139,.cp),(163,(.i .u64)),(165,.aw),(167,.note),(183,(.i .u32)),(184,(.i .u8)),(185,(.i .u8)),(188,(.i .i32)),(189,(.i .i32))],eqs:=[(42,[(.i .i64),(.i .i64),(.i .i64),(.i .i64)]),(132,[.str,(.i .i64),(.i .i64)]),(137,[.str,.str])],pL:=[(24,[(0,3),(1,22)]),(29,[(0,3),(1,27)]),(37,[(0,35),(1,3)]),(42,[(0,3),(1,3),(2,3),(3,3)]),(45,[(0,9),(1,9),(2,3),(3,3),(4,40),(5,42),(9,43)]),(50,[(0,45),(10,3)]),(81,[(0,3),(1,3),(2,3),(3,3)]),(84,[(0,9),(1,9),(2,3),(3,3),(4,80),(5,81),(9,82)]),(86,[(0,84),(10,3)]),(94,[(0,3),(1,3),(2,50)]),(111,[(0,3),(1,3),(2,86)]),(132,[(0,9),(1,3),(2,3)]),(137,[(0,9),(1,9)]),(139,[(0,33),(1,3),(2,3)]),(165,[(0,9),(1,3),(2,3)]),(167,[(0,9),(1,9)])] }
theorem Sq:bl (bd.env []) Try.prog 2 (.i .i64):=(by kernel_rfl:Try.prog.underlying 2=some (.int .i64))
theorem Sr:bl (bd.env []) Try.prog 3 (.i .i64):=(by kernel_rfl:Try.prog.underlying 3=some (.int .i64))
theorem Ss:bl (bd.env []) Try.prog 4 .bool:=(by kernel_rfl:Try.prog.underlying 4=some .bool)
theorem Sw:bl (bd.env []) Try.prog 5 (.i .u8):=(by kernel_rfl:Try.prog.underlying 5=some (.int .u8))
theorem Sx:bl (bd.env []) Try.prog 6 (.i .u8):=(by kernel_rfl:Try.prog.underlying 6=some (.int .u8))
theorem Sy:bl (bd.env []) Try.prog 9 .str:=(by kernel_rfl:Try.prog.underlying 9=some .string)
theorem H0:bl (bd.env []) Try.prog 10 .str:=(by kernel_rfl:Try.prog.underlying 10=some .string)
theorem H2:bl (bd.env []) Try.prog 11 .str:=(by kernel_rfl:Try.prog.underlying 11=some .string)
theorem H3:bl (bd.env []) Try.prog 12 (.i .u64):=(by kernel_rfl:Try.prog.underlying 12=some (.int .u64))
theorem H4:bl (bd.env []) Try.prog 21 (.i .i32):=(by kernel_rfl:Try.prog.underlying 21=some (.int .i32))
theorem Wh:bl (bd.env []) Try.prog 22 (.sl .event):=⟨111,by kernel_rfl,by kernel_rfl⟩
theorem Wi:bl (bd.env []) Try.prog 24 .cZ:=⟨_,Try.underlying24⟩
theorem Wj:bl (bd.env []) Try.prog 27 (.sl .event):=⟨94,by kernel_rfl,by kernel_rfl⟩
theorem Wk:bl (bd.env []) Try.prog 29 .cZ:=⟨_,Try.underlying29⟩
theorem H5:bl (bd.env []) Try.prog 33 (.sl (.i .u8)):=⟨5,by kernel_rfl,by kernel_rfl⟩
theorem H6:bl (bd.env []) Try.prog 35 (.sl .item):=⟨50,by kernel_rfl,by kernel_rfl⟩
theorem Wl:bl (bd.env []) Try.prog 37 .store:=⟨_,Try.underlying37⟩
theorem H7:bl (bd.env []) Try.prog 39 (.sl (.sl .item)):=⟨35,by kernel_rfl,by kernel_rfl⟩
theorem H8:bl (bd.env []) Try.prog 40 (.sl .aw):=⟨132,by kernel_rfl,by kernel_rfl⟩
theorem H9:bl (bd.env []) Try.prog 42 .aD:=⟨_,Try.underlying42⟩
theorem Ia:bl (bd.env []) Try.prog 43 (.sl .note):=⟨137,by kernel_rfl,by kernel_rfl⟩
theorem Ib:bl (bd.env []) Try.prog 45 .order:=⟨_,Try.underlying45⟩
theorem Ic:bl (bd.env []) Try.prog 48 (.sl .str):=⟨9,by kernel_rfl,by kernel_rfl⟩
theorem Ie:bl (bd.env []) Try.prog 50 .item:=⟨_,Try.underlying50⟩
theorem Ig:bl (bd.env []) Try.prog 61 (.sl .item):=⟨86,by kernel_rfl,by kernel_rfl⟩
theorem Ih:bl (bd.env []) Try.prog 80 (.sl .aw):=⟨165,by kernel_rfl,by kernel_rfl⟩
theorem Ii:bl (bd.env []) Try.prog 81 .aD:=⟨_,Try.underlying81⟩
theorem Ij:bl (bd.env []) Try.prog 82 (.sl .note):=⟨167,by kernel_rfl,by kernel_rfl⟩
theorem Ik:bl (bd.env []) Try.prog 84 .order:=⟨_,Try.underlying84⟩
theorem Il:bl (bd.env []) Try.prog 86 .item:=⟨_,Try.underlying86⟩
theorem Wm:bl (bd.env []) Try.prog 94 .event:=⟨_,Try.underlying94⟩
theorem Sz:bl (bd.env []) Try.prog 111 .event:=⟨_,Try.underlying111⟩
theorem AH:bl (bd.env []) Try.prog 122 (.sl (.i .i64)):=⟨3,by kernel_rfl,by kernel_rfl⟩
theorem AI:bl (bd.env []) Try.prog 132 .aw:=⟨_,Try.underlying132⟩
theorem AJ:bl (bd.env []) Try.prog 137 .note:=⟨_,Try.underlying137⟩
theorem AK:bl (bd.env []) Try.prog 139 .cp:=⟨_,Try.underlying139⟩
theorem AL:bl (bd.env []) Try.prog 163 (.i .u64):=(by kernel_rfl:Try.prog.underlying 163=some (.int .u64))
theorem AN:bl (bd.env []) Try.prog 165 .aw:=⟨_,Try.underlying165⟩
theorem AO:bl (bd.env []) Try.prog 167 .note:=⟨_,Try.underlying167⟩
theorem AP:bl (bd.env []) Try.prog 183 (.i .u32):=(by kernel_rfl:Try.prog.underlying 183=some (.int .u32))
theorem AQ:bl (bd.env []) Try.prog 184 (.i .u8):=(by kernel_rfl:Try.prog.underlying 184=some (.int .u8))
theorem AR:bl (bd.env []) Try.prog 185 (.i .u8):=(by kernel_rfl:Try.prog.underlying 185=some (.int .u8))
theorem AS:bl (bd.env []) Try.prog 188 (.i .i32):=(by kernel_rfl:Try.prog.underlying 188=some (.int .i32))
theorem AT:bl (bd.env []) Try.prog 189 (.i .i32):=(by kernel_rfl:Try.prog.underlying 189=some (.int .i32))
theorem Wn:∃fs:Array Field,Try.prog.underlying 24=some (.struct fs)∧[(0,3),(1,22)]=fs.toList.map (fun f=>(f.offset,f.type))∧(∀ y∈([(0,3),(1,22)]:List (Nat×Nat)),(ak bd.code y.2).isSome)∧(fs.toList.mapM (fun f=>(Try.prog.info? f.type).map fun i=>(f.offset,i.size))).isSome:=
 ⟨_,Try.underlying24,by kernel_rfl,List.all_eq_true.1 (by kernel_rfl),by kernel_rfl⟩
theorem Wo:∃fs:Array Field,Try.prog.underlying 29=some (.struct fs)∧[(0,3),(1,27)]=fs.toList.map (fun f=>(f.offset,f.type))∧(∀ y∈([(0,3),(1,27)]:List (Nat×Nat)),(ak bd.code y.2).isSome)∧(fs.toList.mapM (fun f=>(Try.prog.info? f.type).map fun i=>(f.offset,i.size))).isSome:=
 ⟨_,Try.underlying29,by kernel_rfl,List.all_eq_true.1 (by kernel_rfl),by kernel_rfl⟩
theorem Wp:∃fs:Array Field,Try.prog.underlying 37=some (.struct fs)∧[(0,35),(1,3)]=fs.toList.map (fun f=>(f.offset,f.type))∧(∀ y∈([(0,35),(1,3)]:List (Nat×Nat)),(ak bd.code y.2).isSome)∧(fs.toList.mapM (fun f=>(Try.prog.info? f.type).map fun i=>(f.offset,i.size))).isSome:=
 ⟨_,Try.underlying37,by kernel_rfl,List.all_eq_true.1 (by kernel_rfl),by kernel_rfl⟩
theorem Im:∃fs:Array Field,Try.prog.underlying 42=some (.struct fs)∧[(0,3),(1,3),(2,3),(3,3)]=fs.toList.map (fun f=>(f.offset,f.type))∧(∀ y∈([(0,3),(1,3),(2,3),(3,3)]:List (Nat×Nat)),(ak bd.code y.2).isSome)∧(fs.toList.mapM (fun f=>(Try.prog.info? f.type).map fun i=>(f.offset,i.size))).isSome:=
 ⟨_,Try.underlying42,by kernel_rfl,List.all_eq_true.1 (by kernel_rfl),by kernel_rfl⟩
theorem Io:∃fs:Array Field,Try.prog.underlying 45=some (.struct fs)∧[(0,9),(1,9),(2,3),(3,3),(4,40),(5,42),(9,43)]=fs.toList.map (fun f=>(f.offset,f.type))∧(∀ y∈([(0,9),(1,9),(2,3),(3,3),(4,40),(5,42),(9,43)]:List (Nat×Nat)),(ak bd.code y.2).isSome)∧(fs.toList.mapM (fun f=>(Try.prog.info? f.type).map fun i=>(f.offset,i.size))).isSome:=
 ⟨_,Try.underlying45,by kernel_rfl,List.all_eq_true.1 (by kernel_rfl),by kernel_rfl⟩
theorem Ip:∃fs:Array Field,Try.prog.underlying 50=some (.struct fs)∧[(0,45),(10,3)]=fs.toList.map (fun f=>(f.offset,f.type))∧(∀ y∈([(0,45),(10,3)]:List (Nat×Nat)),(ak bd.code y.2).isSome)∧(fs.toList.mapM (fun f=>(Try.prog.info? f.type).map fun i=>(f.offset,i.size))).isSome:=
 ⟨_,Try.underlying50,by kernel_rfl,List.all_eq_true.1 (by kernel_rfl),by kernel_rfl⟩
theorem Iq:∃fs:Array Field,Try.prog.underlying 81=some (.struct fs)∧[(0,3),(1,3),(2,3),(3,3)]=fs.toList.map (fun f=>(f.offset,f.type))∧(∀ y∈([(0,3),(1,3),(2,3),(3,3)]:List (Nat×Nat)),(ak bd.code y.2).isSome)∧(fs.toList.mapM (fun f=>(Try.prog.info? f.type).map fun i=>(f.offset,i.size))).isSome:=
 ⟨_,Try.underlying81,by kernel_rfl,List.all_eq_true.1 (by kernel_rfl),by kernel_rfl⟩
theorem Ir:∃fs:Array Field,Try.prog.underlying 84=some (.struct fs)∧[(0,9),(1,9),(2,3),(3,3),(4,80),(5,81),(9,82)]=fs.toList.map (fun f=>(f.offset,f.type))∧(∀ y∈([(0,9),(1,9),(2,3),(3,3),(4,80),(5,81),(9,82)]:List (Nat×Nat)),(ak bd.code y.2).isSome)∧(fs.toList.mapM (fun f=>(Try.prog.info? f.type).map fun i=>(f.offset,i.size))).isSome:=
 ⟨_,Try.underlying84,by kernel_rfl,List.all_eq_true.1 (by kernel_rfl),by kernel_rfl⟩
theorem Is:∃fs:Array Field,Try.prog.underlying 86=some (.struct fs)∧[(0,84),(10,3)]=fs.toList.map (fun f=>(f.offset,f.type))∧(∀ y∈([(0,84),(10,3)]:List (Nat×Nat)),(ak bd.code y.2).isSome)∧(fs.toList.mapM (fun f=>(Try.prog.info? f.type).map fun i=>(f.offset,i.size))).isSome:=
 ⟨_,Try.underlying86,by kernel_rfl,List.all_eq_true.1 (by kernel_rfl),by kernel_rfl⟩
theorem Wq:∃fs:Array Field,Try.prog.underlying 94=some (.struct fs)∧[(0,3),(1,3),(2,50)]=fs.toList.map (fun f=>(f.offset,f.type))∧(∀ y∈([(0,3),(1,3),(2,50)]:List (Nat×Nat)),(ak bd.code y.2).isSome)∧(fs.toList.mapM (fun f=>(Try.prog.info? f.type).map fun i=>(f.offset,i.size))).isSome:=
 ⟨_,Try.underlying94,by kernel_rfl,List.all_eq_true.1 (by kernel_rfl),by kernel_rfl⟩
theorem SA:∃fs:Array Field,Try.prog.underlying 111=some (.struct fs)∧[(0,3),(1,3),(2,86)]=fs.toList.map (fun f=>(f.offset,f.type))∧(∀ y∈([(0,3),(1,3),(2,86)]:List (Nat×Nat)),(ak bd.code y.2).isSome)∧(fs.toList.mapM (fun f=>(Try.prog.info? f.type).map fun i=>(f.offset,i.size))).isSome:=
 ⟨_,Try.underlying111,by kernel_rfl,List.all_eq_true.1 (by kernel_rfl),by kernel_rfl⟩
theorem AU:∃fs:Array Field,Try.prog.underlying 132=some (.struct fs)∧[(0,9),(1,3),(2,3)]=fs.toList.map (fun f=>(f.offset,f.type))∧(∀ y∈([(0,9),(1,3),(2,3)]:List (Nat×Nat)),(ak bd.code y.2).isSome)∧(fs.toList.mapM (fun f=>(Try.prog.info? f.type).map fun i=>(f.offset,i.size))).isSome:=
 ⟨_,Try.underlying132,by kernel_rfl,List.all_eq_true.1 (by kernel_rfl),by kernel_rfl⟩
theorem AV:∃fs:Array Field,Try.prog.underlying 137=some (.struct fs)∧[(0,9),(1,9)]=fs.toList.map (fun f=>(f.offset,f.type))∧(∀ y∈([(0,9),(1,9)]:List (Nat×Nat)),(ak bd.code y.2).isSome)∧(fs.toList.mapM (fun f=>(Try.prog.info? f.type).map fun i=>(f.offset,i.size))).isSome:=
 ⟨_,Try.underlying137,by kernel_rfl,List.all_eq_true.1 (by kernel_rfl),by kernel_rfl⟩
theorem AW:∃fs:Array Field,Try.prog.underlying 139=some (.struct fs)∧[(0,33),(1,3),(2,3)]=fs.toList.map (fun f=>(f.offset,f.type))∧(∀ y∈([(0,33),(1,3),(2,3)]:List (Nat×Nat)),(ak bd.code y.2).isSome)∧(fs.toList.mapM (fun f=>(Try.prog.info? f.type).map fun i=>(f.offset,i.size))).isSome:=
 ⟨_,Try.underlying139,by kernel_rfl,List.all_eq_true.1 (by kernel_rfl),by kernel_rfl⟩
theorem AX:∃fs:Array Field,Try.prog.underlying 165=some (.struct fs)∧[(0,9),(1,3),(2,3)]=fs.toList.map (fun f=>(f.offset,f.type))∧(∀ y∈([(0,9),(1,3),(2,3)]:List (Nat×Nat)),(ak bd.code y.2).isSome)∧(fs.toList.mapM (fun f=>(Try.prog.info? f.type).map fun i=>(f.offset,i.size))).isSome:=
 ⟨_,Try.underlying165,by kernel_rfl,List.all_eq_true.1 (by kernel_rfl),by kernel_rfl⟩
theorem AY:∃fs:Array Field,Try.prog.underlying 167=some (.struct fs)∧[(0,9),(1,9)]=fs.toList.map (fun f=>(f.offset,f.type))∧(∀ y∈([(0,9),(1,9)]:List (Nat×Nat)),(ak bd.code y.2).isSome)∧(fs.toList.mapM (fun f=>(Try.prog.info? f.type).map fun i=>(f.offset,i.size))).isSome:=
 ⟨_,Try.underlying167,by kernel_rfl,List.all_eq_true.1 (by kernel_rfl),by kernel_rfl⟩
theorem aV:bd.Ok Try.prog:={
 info:=rE (by kernel_rfl)
 pN:=aU.2 ⟨Sq,aU.2 ⟨Sr,aU.2 ⟨Ss,aU.2 ⟨Sw,aU.2 ⟨Sx,aU.2 ⟨Sy,aU.2 ⟨H0,aU.2 ⟨H2,aU.2 ⟨H3,aU.2 ⟨H4,aU.2 ⟨Wh,aU.2 ⟨Wi,aU.2 ⟨Wj,aU.2 ⟨Wk,aU.2 ⟨H5,aU.2 ⟨H6,aU.2 ⟨Wl,aU.2 ⟨H7,aU.2 ⟨H8,aU.2 ⟨H9,aU.2 ⟨Ia,aU.2 ⟨Ib,aU.2 ⟨Ic,aU.2 ⟨Ie,aU.2 ⟨Ig,aU.2 ⟨Ih,aU.2 ⟨Ii,aU.2 ⟨Ij,aU.2 ⟨Ik,aU.2 ⟨Il,aU.2 ⟨Wm,aU.2 ⟨Sz,aU.2 ⟨AH,aU.2 ⟨AI,aU.2 ⟨AJ,aU.2 ⟨AK,aU.2 ⟨AL,aU.2 ⟨AN,aU.2 ⟨AO,aU.2 ⟨AP,aU.2 ⟨AQ,aU.2 ⟨AR,aU.2 ⟨AS,aU.2 ⟨AT,gD⟩⟩⟩⟩⟩⟩⟩⟩⟩⟩⟩⟩⟩⟩⟩⟩⟩⟩⟩⟩⟩⟩⟩⟩⟩⟩⟩⟩⟩⟩⟩⟩⟩⟩⟩⟩⟩⟩⟩⟩⟩⟩⟩⟩
 pL:=aU.2 ⟨Wn,aU.2 ⟨Wo,aU.2 ⟨Wp,aU.2 ⟨Im,aU.2 ⟨Io,aU.2 ⟨Ip,aU.2 ⟨Iq,aU.2 ⟨Ir,aU.2 ⟨Is,aU.2 ⟨Wq,aU.2 ⟨SA,aU.2 ⟨AU,aU.2 ⟨AV,aU.2 ⟨AW,aU.2 ⟨AX,aU.2 ⟨AY,gD⟩⟩⟩⟩⟩⟩⟩⟩⟩⟩⟩⟩⟩⟩⟩⟩
 Uk:=aU.2 ⟨fun h=>by first | (cases h;done) | (simp;done),aU.2 ⟨fun h=>by first | (cases h;done) | (simp;done),aU.2 ⟨fun h=>by first | (cases h;done) | (simp;done),aU.2 ⟨fun h=>by first | (cases h;done) | (simp;done),aU.2 ⟨fun h=>by first | (cases h;done) | (simp;done),aU.2 ⟨fun h=>by first | (cases h;done) | (simp;done),aU.2 ⟨fun h=>by first | (cases h;done) | (simp;done),aU.2 ⟨fun h=>by first | (cases h;done) | (simp;done),aU.2 ⟨fun h=>by first | (cases h;done) | (simp;done),aU.2 ⟨fun h=>by first | (cases h;done) | (simp;done),aU.2 ⟨fun h=>by first | (cases h;done) | (simp;done),aU.2 ⟨fun _=>by simp[bd],aU.2 ⟨fun h=>by first | (cases h;done) | (simp;done),aU.2 ⟨fun _=>by simp[bd],aU.2 ⟨fun h=>by first | (cases h;done) | (simp;done),aU.2 ⟨fun h=>by first | (cases h;done) | (simp;done),aU.2 ⟨fun _=>by simp[bd],aU.2 ⟨fun h=>by first | (cases h;done) | (simp;done),aU.2 ⟨fun h=>by first | (cases h;done) | (simp;done),aU.2 ⟨fun _=>by simp[bd],aU.2 ⟨fun h=>by first | (cases h;done) | (simp;done),aU.2 ⟨fun _=>by simp[bd],aU.2 ⟨fun h=>by first | (cases h;done) | (simp;done),aU.2 ⟨fun _=>by simp[bd],aU.2 ⟨fun h=>by first | (cases h;done) | (simp;done),aU.2 ⟨fun h=>by first | (cases h;done) | (simp;done),aU.2 ⟨fun _=>by simp[bd],aU.2 ⟨fun h=>by first | (cases h;done) | (simp;done),aU.2 ⟨fun _=>by simp[bd],aU.2 ⟨fun _=>by simp[bd],aU.2 ⟨fun _=>by simp[bd],aU.2 ⟨fun _=>by simp[bd],aU.2 ⟨fun h=>by first | (cases h;done) | (simp;done),aU.2 ⟨fun _=>by simp[bd],aU.2 ⟨fun _=>by simp[bd],aU.2 ⟨fun _=>by simp[bd],aU.2 ⟨fun h=>by first | (cases h;done) | (simp;done),aU.2 ⟨fun _=>by simp[bd],aU.2 ⟨fun _=>by simp[bd],aU.2 ⟨fun h=>by first | (cases h;done) | (simp;done),aU.2 ⟨fun h=>by first | (cases h;done) | (simp;done),aU.2 ⟨fun h=>by first | (cases h;done) | (simp;done),aU.2 ⟨fun h=>by first | (cases h;done) | (simp;done),aU.2 ⟨fun h=>by first | (cases h;done) | (simp;done),gD⟩⟩⟩⟩⟩⟩⟩⟩⟩⟩⟩⟩⟩⟩⟩⟩⟩⟩⟩⟩⟩⟩⟩⟩⟩⟩⟩⟩⟩⟩⟩⟩⟩⟩⟩⟩⟩⟩⟩⟩⟩⟩⟩⟩
 eqs:=aU.2 ⟨ib (by kernel_rfl) (by kernel_rfl) (by kernel_rfl) (by kernel_rfl),aU.2 ⟨ib (by kernel_rfl) (by kernel_rfl) (by kernel_rfl) (by kernel_rfl),aU.2 ⟨ib (by kernel_rfl) (by kernel_rfl) (by kernel_rfl) (by kernel_rfl),gD⟩⟩⟩
 ord:=by kernel_rfl }
noncomputable def AZ:Code:=(Try.f135.body).getD .skip
def It:Nat→Kp:=fF [⟨[0],[],[],[]⟩,⟨[0,4],[],[],[]⟩,⟨[2],[],[],[]⟩,⟨[2],[],[],[]⟩]
noncomputable def Iu:Env:=bd.env []
theorem Es{R:Type}(n:Nat)(k:Kt R)(a0:List aj):aO Iu It n AZ [.ro] [false] true [.tmp 2] [40] [.d (.sl .aw) a0] k=
 (cond (List.isEmpty a0)
 none
 (cond (Nat.ble (0+a0.length) fO)
 (k [.d (.sl .aw) (([]:List aj)++a0)])
 none)):=by kernel_rfl
theorem A0(a0:List aj)(hg:(fun(x:List aj)=> !(x.isEmpty)&&Nat.ble x.length fO) a0=true):∃keep rounds,∀{R:Type}(k:Kt R),aO Iu keep rounds AZ [.ro] [false] true [.tmp 2] [40] [.d (.sl .aw) a0] k=k [.d (.sl .aw) a0]:=by
 simp only[Bool.and_eq_true,Bool.not_eq_true'] at hg
 obtain⟨h1,h2⟩:=hg
 refine⟨It,0,fun {R} k=> ?_⟩
 rw[Es,h1,Nat.zero_add,h2]
 simp only[cond_true,cond_false,List.nil_append]
noncomputable def Iv:Qt
 | [.d (.sl .aw) a0]=>some (((fun(x:List aj)=> !(x.isEmpty)&&Nat.ble x.length fO) a0),[.d (.sl .aw) a0])
 |_=>none
noncomputable def Wr:Gm.Spec:=Gm.Spec.of [.ro] [false] true Iv
theorem Iw:Gm.Good Try.prog (135,Wr):=by
 have hl:∀x∈([]:List (Nat×Gm.Spec)),Gm.Good Try.prog x:=fun _ h=>by cases h
 refine⟨⟨aM (aV.env hl) (bd.cz hl) Try.func135 (by kernel_rfl:Try.f135.body=some AZ) [40] (by kernel_rfl) ?_,_,Try.func135,by kernel_rfl,of_decide_eq_true (by kernel_rfl)⟩,Gm.Spec.aG _ _ _ _⟩
 intro ds outs h
 unfold Iv at h
 split at h
 ·simp only[Option.some.injEq,Prod.mk.injEq] at h;obtain⟨hg,h⟩:=h;cases h;exact A0 _ hg
 ·cases h
set_option maxHeartbeats 1000000 in
set_option maxRecDepth 100000 in
theorem SB:Ar Try.prog 135:=by
 intro a c w
 cases a with
 |none=>
  have SC:∀(w:World)(n c n' c':Nat),(binOp .eql 40 (.slice none n c) (.slice none n' c')).run Try.prog w = .ok (.bool true) w:=fun w n c n' c'=>Lib.run_eql_slice_nil w _ _ none n c n' c' Try.underlying40
  go_enter Try.func135,Try.ntmps135
  go_wp2
  go_ret
  exact .inl ⟨rfl,rfl⟩
 |some a=>
  have SC:∀(w:World)(n c n' c':Nat),(binOp .eql 40 (.slice (some a) n c) (.slice none n' c')).run Try.prog w = .ok (.bool false) w:=fun w n c n' c'=>Lib.run_eql_slice_nil w _ _ (some a) n c n' c' Try.underlying40
  go_enter Try.func135,Try.ntmps135
  go_wp2
  go_ret
  exact .inr ⟨_,rfl,rfl⟩
noncomputable def Qj:Qt
 | [.d (.sl .aw) []]=>some (true,[.d (.sl .aw) []])
 |_=>none
noncomputable def SD:Qt
 | [.d (.sl .aw) a0]=>some (Nat.ble a0.length fO,[.d (.sl .aw) a0])
 |_=>none
noncomputable def SE:Gm.Spec:=Gm.Spec.of [.ro] [false] true SD
theorem NI:Gm.Good Try.prog (135,SE):=by
 refine⟨⟨rK (q:=SD) (qb:=Qj) Iw.1.1 (pb (t:= .aw) SB fun ds outs h=> ?_) fun ds outs h=> ?_,_,Try.func135,by kernel_rfl,of_decide_eq_true (by kernel_rfl)⟩,Gm.Spec.aG _ _ _ _⟩
 ·unfold Qj at h
  split at h
  ·simp only[Option.some.injEq,Prod.mk.injEq,true_and] at h
   exact⟨rfl,h.symm⟩
  ·cases h
 ·unfold SD at h
  split at h
  ·rename_i a0
   simp only[Option.some.injEq,Prod.mk.injEq] at h
   obtain⟨hg,rfl⟩:=h
   cases a0 with
   |nil=>exact .inr rfl
   |cons x r=>refine .inl ?_;simp only[Iv,List.isEmpty_cons,Bool.not_false,Bool.true_and,hg]
  ·cases h
noncomputable def A1:Code:=(Try.f136.body).getD .skip
def Ix:Nat→Kp:=fF [⟨[0],[],[],[]⟩,⟨[0,4],[],[],[]⟩,⟨[2],[],[],[]⟩,⟨[2],[],[],[]⟩]
noncomputable def Iy:Env:=bd.env []
theorem Et{R:Type}(n:Nat)(k:Kt R)(a0:List aF):aO Iy Ix n A1 [.ro] [false] true [.tmp 2] [43] [.d (.sl .note) a0] k=
 (cond (List.isEmpty a0)
 none
 (cond (Nat.ble (0+a0.length) fO)
 (k [.d (.sl .note) (([]:List aF)++a0)])
 none)):=by kernel_rfl
theorem A2(a0:List aF)(hg:(fun(x:List aF)=> !(x.isEmpty)&&Nat.ble x.length fO) a0=true):∃keep rounds,∀{R:Type}(k:Kt R),aO Iy keep rounds A1 [.ro] [false] true [.tmp 2] [43] [.d (.sl .note) a0] k=k [.d (.sl .note) a0]:=by
 simp only[Bool.and_eq_true,Bool.not_eq_true'] at hg
 obtain⟨h1,h2⟩:=hg
 refine⟨Ix,0,fun {R} k=> ?_⟩
 rw[Et,h1,Nat.zero_add,h2]
 simp only[cond_true,cond_false,List.nil_append]
noncomputable def Iz:Qt
 | [.d (.sl .note) a0]=>some (((fun(x:List aF)=> !(x.isEmpty)&&Nat.ble x.length fO) a0),[.d (.sl .note) a0])
 |_=>none
noncomputable def Ws:Gm.Spec:=Gm.Spec.of [.ro] [false] true Iz
theorem IA:Gm.Good Try.prog (136,Ws):=by
 have hl:∀x∈([]:List (Nat×Gm.Spec)),Gm.Good Try.prog x:=fun _ h=>by cases h
 refine⟨⟨aM (aV.env hl) (bd.cz hl) Try.func136 (by kernel_rfl:Try.f136.body=some A1) [43] (by kernel_rfl) ?_,_,Try.func136,by kernel_rfl,of_decide_eq_true (by kernel_rfl)⟩,Gm.Spec.aG _ _ _ _⟩
 intro ds outs h
 unfold Iz at h
 split at h
 ·simp only[Option.some.injEq,Prod.mk.injEq] at h;obtain⟨hg,h⟩:=h;cases h;exact A2 _ hg
 ·cases h
set_option maxHeartbeats 1000000 in
set_option maxRecDepth 100000 in
theorem SF:Ar Try.prog 136:=by
 intro a c w
 cases a with
 |none=>
  have SC:∀(w:World)(n c n' c':Nat),(binOp .eql 43 (.slice none n c) (.slice none n' c')).run Try.prog w = .ok (.bool true) w:=fun w n c n' c'=>Lib.run_eql_slice_nil w _ _ none n c n' c' Try.underlying43
  go_enter Try.func136,Try.ntmps136
  go_wp2
  go_ret
  exact .inl ⟨rfl,rfl⟩
 |some a=>
  have SC:∀(w:World)(n c n' c':Nat),(binOp .eql 43 (.slice (some a) n c) (.slice none n' c')).run Try.prog w = .ok (.bool false) w:=fun w n c n' c'=>Lib.run_eql_slice_nil w _ _ (some a) n c n' c' Try.underlying43
  go_enter Try.func136,Try.ntmps136
  go_wp2
  go_ret
  exact .inr ⟨_,rfl,rfl⟩
noncomputable def Qk:Qt
 | [.d (.sl .note) []]=>some (true,[.d (.sl .note) []])
 |_=>none
noncomputable def SG:Qt
 | [.d (.sl .note) a0]=>some (Nat.ble a0.length fO,[.d (.sl .note) a0])
 |_=>none
noncomputable def SH:Gm.Spec:=Gm.Spec.of [.ro] [false] true SG
theorem NJ:Gm.Good Try.prog (136,SH):=by
 refine⟨⟨rK (q:=SG) (qb:=Qk) IA.1.1 (pb (t:= .note) SF fun ds outs h=> ?_) fun ds outs h=> ?_,_,Try.func136,by kernel_rfl,of_decide_eq_true (by kernel_rfl)⟩,Gm.Spec.aG _ _ _ _⟩
 ·unfold Qk at h
  split at h
  ·simp only[Option.some.injEq,Prod.mk.injEq,true_and] at h
   exact⟨rfl,h.symm⟩
  ·cases h
 ·unfold SG at h
  split at h
  ·rename_i a0
   simp only[Option.some.injEq,Prod.mk.injEq] at h
   obtain⟨hg,rfl⟩:=h
   cases a0 with
   |nil=>exact .inr rfl
   |cons x r=>refine .inl ?_;simp only[Iz,List.isEmpty_cons,Bool.not_false,Bool.true_and,hg]
  ·cases h
noncomputable def IB:Code:=(Try.f104.body).getD .skip
def Ql:Nat→Kp:=fF [⟨[1,2],[],[],[]⟩,⟨[1,2],[],[],[]⟩,⟨[1,2],[],[],[]⟩,⟨[2],[],[],[]⟩]
noncomputable def Qm:Env:=bd.env [(135,SE),(136,SH)]
theorem IC{R:Type}(n:Nat)(k:Kt R)(a0:ae):aO Qm Ql n IB [.ro] [false] true [.cell 2 45] [45] [.d .order a0] k=
 (cond ((fun(x:List aj)=>Nat.ble x.length fO) (ae.aq a0))
 (cond ((fun(x:List aF)=>Nat.ble x.length fO) (ae.notes a0))
 (k [.d .order a0])
 none)
 none):=by kernel_rfl
theorem Eu(a0:ae)(hg:aL a0=true):∃keep rounds,∀{R:Type}(k:Kt R),aO Qm keep rounds IB [.ro] [false] true [.cell 2 45] [45] [.d .order a0] k=k [.d .order a0]:=by
 simp only[aL,Bool.and_eq_true] at hg
 obtain⟨_,_,_,_,hm,_,tG⟩:=hg
 have h1:=Qh (dU hm)
 have h2:=Qh (dU tG)
 refine⟨Ql,0,fun {R} k=> ?_⟩
 rw[IC]
 simp only[Nat.zero_add,List.nil_append,h1,h2,cond_true]
noncomputable def Wt:Qt
 | [.d .order a0]=>some ((aL a0),[.d .order a0])
 |_=>none
noncomputable def SI:Gm.Spec:=Gm.Spec.of [.ro] [false] true Wt
theorem NK:Gm.Good Try.prog (104,SI):=by
 have hl:∀x∈[(135,SE),(136,SH)],Gm.Good Try.prog x:=aU.2 ⟨NI,aU.2 ⟨NJ,gD⟩⟩
 refine⟨⟨aM (aV.env hl) (bd.cz hl) Try.func104 (by kernel_rfl:Try.f104.body=some IB) [45] (by kernel_rfl) ?_,_,Try.func104,by kernel_rfl,of_decide_eq_true (by kernel_rfl)⟩,Gm.Spec.aG _ _ _ _⟩
 intro ds outs h
 unfold Wt at h
 split at h
 ·simp only[Option.some.injEq,Prod.mk.injEq] at h;obtain⟨hg,h⟩:=h;cases h;exact Eu _ hg
 ·cases h
noncomputable def SJ:Code:=(Try.f61.body).getD .skip
def Wu:Nat→Kp:=fF [⟨[1,2],[],[],[]⟩,⟨[2],[],[],[]⟩]
noncomputable def Wv:Env:=bd.env [(104,SI)]
theorem NL{R:Type}(n:Nat)(k:Kt R)(a0:af):aO Wv Wu n SJ [.ro] [false] true [.cell 2 50] [50] [.d .item a0] k=
 (cond (aL (af.order a0))
 (k [.d .item a0])
 none):=by kernel_rfl
theorem ID(a0:af)(hg:bn a0=true):∃keep rounds,∀{R:Type}(k:Kt R),aO Wv keep rounds SJ [.ro] [false] true [.cell 2 50] [50] [.d .item a0] k=k [.d .item a0]:=by
 simp only[bn,Bool.and_eq_true] at hg
 refine⟨Wu,0,fun {R} k=> ?_⟩
 rw[NL]
 simp only[gq,il,hg.1,cond_true]
noncomputable def rX:Qt
 | [.d .item a0]=>some ((bn a0),[.d .item a0])
 |_=>none
noncomputable def Ev:Gm.Spec:=Gm.Spec.of [.ro] [false] true rX
theorem oM:Gm.Good Try.prog (61,Ev):=by
 have hl:∀x∈[(104,SI)],Gm.Good Try.prog x:=aU.2 ⟨NK,gD⟩
 refine⟨⟨aM (aV.env hl) (bd.cz hl) Try.func61 (by kernel_rfl:Try.f61.body=some SJ) [50] (by kernel_rfl) ?_,_,Try.func61,by kernel_rfl,of_decide_eq_true (by kernel_rfl)⟩,Gm.Spec.aG _ _ _ _⟩
 intro ds outs h
 unfold rX at h
 split at h
 ·simp only[Option.some.injEq,Prod.mk.injEq] at h;obtain⟨hg,h⟩:=h;cases h;exact ID _ hg
 ·cases h
noncomputable def CQ(y0:List ag)(y1:Int)(y2:Int)(y3:List ag):St:=⟨[(3,.c (.one (.h 384 0 0 []))),(7,.c (.one (.ro .event y0))),(8,.c (.one (.v (.int .i64 y1)))),(9,.c (.one (.v (.int .i64 y2))))],[],[(384,.live ⟨.event,.deep,0,[],y3⟩)]⟩
noncomputable def IE(y0:List ag)(y1:Int)(y2:Int)(y3:Bool)(y4:List ag):St:=⟨[(3,.c (.one (.h 384 0 0 []))),(7,.c (.one (.ro .event y0))),(8,.c (.one (.v (.int .i64 y1)))),(9,.c (.one (.v (.int .i64 y2)))),(10,.c (.one (.v (.bool y3))))],[],[(384,.live ⟨.event,.deep,0,[],y4⟩)]⟩
noncomputable def A3:Code:=(Try.f67.body).getD .skip
def Ew:Nat→Kp:=fF [⟨[0],[],[],[]⟩,⟨[0,3],[],[],[]⟩,⟨[3,7,8,9],[],[],[]⟩,⟨[3,7,8,9,10],[],[],[]⟩,⟨[3,5,7,8,9],[],[],[]⟩,⟨[3,7,8,9],[],[],[]⟩,⟨[3,7,8,9],[],[],[]⟩,⟨[2],[],[],[]⟩]
noncomputable def yD:Env:=bd.env [(61,Ev)]
noncomputable def rY{R:Type}(n:Nat)(x0:Int→Bool→(List ag)→Option R)(wB:List ag)(wC:Int):Nat→Int→(List ag)→Option R
  |0,_,_=>none
  |m+1,wA,wD=>
    (cond (decide (wA<wC))
   (cond ((decide ((0:Int)≤wA))&&(decide (wA<(wB.length:Int))))
    (cond (bn (ag.item (ax (t:= .event) wB (Int.toNat wA))))
     (cond (Nat.ble (wD.length+1) fO)
      (rY n x0 wB wC m (IntKind.wrap .i64 (wA+(1:Int))) (wD++([(ax (t:= .event) wB (Int.toNat wA))]:List ag)))
      none)
     none)
    none)
   (x0 wA (decide (wA<wC)) wD))
theorem NM{R:Type}(n:Nat)(k':Kx R)(wB:List ag)(wC:Int)(wA:Int)(wD:List ag):ev yD Ew n (cM [1,1,0,1,0,0] A3) (CQ wB wC wA wD) k'=
 (cond (decide (wA<wC))
 (cond ((decide ((0:Int)≤wA))&&(decide (wA<(wB.length:Int))))
 (cond (bn (ag.item (ax (t:= .event) wB (Int.toNat wA))))
 (cond (Nat.ble (wD.length+1) fO)
 (k' .normal (CQ wB wC (IntKind.wrap .i64 (wA+(1:Int))) (wD++([(ax (t:= .event) wB (Int.toNat wA))]:List ag))))
 none)
 none)
 none)
 (k' (.exit 0) (IE wB wC wA (decide (wA<wC)) wD))):=by kernel_rfl
theorem IF{R:Type}(n:Nat)(k':Kx R)(wB:List ag)(wC:Int):∀(m:Nat)(wA:Int)(wD:List ag),iter (fun st k=>ev yD Ew n (cM [1,1,0,1,0,0] A3) st k) m (CQ wB wC wA wD) k'=rY n (fun(wF:Int)(wG:Bool)(wE:List ag)=>k' (.exit 0) (IE wB wC wF wG wE)) wB wC m wA wD:=by
 intro m;induction m with
 |zero=>intros;rfl
 |succ m ih=>
  intro wA wD
  simp only[iter]
  rw[NM]
  simp only[ih,rY]
noncomputable def Qn{R:Type}(n:Nat)(k':Kx R):Kx R:=(cL 0 (gd yD Ew n (cM [1,1,1] A3) k'))
theorem IG{R:Type}(n:Nat)(k:Kt R)(a0:List ag)(wB:List ag)(wC:Int)(wF:Int)(wG:Bool)(wE:List ag):Qn n (bt yD [.ro] [false] true [.tmp 2] [27] [.d (.sl .event) a0] k) (.exit 0) (IE wB wC wF wG wE)=
 (k [.d (.sl .event) wE]):=by kernel_rfl
theorem NN{R:Type}(n:Nat)(k:Kt R)(a0:List ag):aO yD Ew n A3 [.ro] [false] true [.tmp 2] [27] [.d (.sl .event) a0] k=
 (rY n (fun(wF:Int)(wG:Bool)(wE:List ag)=>
 (k [.d (.sl .event) wE])) a0 (a0.length:Int) n (0:Int) ([]:List ag)):=by
 refine Eq.trans (b:=(iter (fun st k=>ev yD Ew n (cM [1,1,0,1,0,0] A3) st k) n (CQ a0 (a0.length:Int) (0:Int) ([]:List ag)) (Qn n (bt yD [.ro] [false] true [.tmp 2] [27] [.d (.sl .event) a0] k)))) (by kernel_rfl) ?_
 simp only[IF,IG]
theorem II(a0:List ag)(hg:gC fp a0=true):∃keep rounds,∀{R:Type}(k:Kt R),aO yD keep rounds A3 [.ro] [false] true [.tmp 2] [27] [.d (.sl .event) a0] k=k [.d (.sl .event) a0]:=by
 have hl:=dU hg
 refine⟨Ew,a0.length+1,fun {R} k=> ?_⟩
 rw[NN]
 refine Eq.trans (yp (xs:=a0) (F:=fun m j out=>rY (a0.length+1) _ a0 (a0.length:Int) m (j:Int) out) (f:=fun out x=>out++[x]) (good:=fun out=>k [.d (.sl .event) out]) (fun j out=>out.length≤j)
  (fun j out x hx hi=>by simp only[List.length_append,List.length_cons,List.length_nil];omega) (fun m j out x hx hi=> ?_) (fun m out hi=>by simp only[rY,kn,cond_false]) a0.length 0 (a0.length+1) [] (by omega) (by omega) (by simp)) ?_
 ·obtain⟨h1,h0,hw,ht⟩:=idx (l4 hx) (by omega)
  have hj:=l4 hx
  have hs:=List.all_eq_true.1 (gQ hg) x (List.mem_of_getElem? hx)
  have iC:Nat.ble (out.length+1) fO=true:=Nat.ble_eq_true_of_le (by have:(fO:Nat)=4294967296:=rfl;omega)
  simp only[rY,h1,h0,hw,ht,dG (t:= .event) hx,Bool.and_self,cond_true,iC,same,gq,il,nK,uh,(show bn x.item=true by simp only[fp,Bool.and_eq_true] at hs;exact hs.2.2)]
 ·rw[List.drop_zero,rO,List.nil_append]
noncomputable def q67:Qt
 | [.d (.sl .event) a0]=>some ((gC fp a0),[.d (.sl .event) a0])
 |_=>none
noncomputable def Ww:Gm.Spec:=Gm.Spec.of [.ro] [false] true q67
theorem IJ:Gm.Good Try.prog (67,Ww):=by
 have hl:∀x∈[(61,Ev)],Gm.Good Try.prog x:=aU.2 ⟨oM,gD⟩
 refine⟨⟨aM (aV.env hl) (bd.cz hl) Try.func67 (by kernel_rfl:Try.f67.body=some A3) [27] (by kernel_rfl) ?_,_,Try.func67,by kernel_rfl,of_decide_eq_true (by kernel_rfl)⟩,Gm.Spec.aG _ _ _ _⟩
 intro ds outs h
 unfold q67 at h
 split at h
 ·simp only[Option.some.injEq,Prod.mk.injEq] at h;obtain⟨hg,h⟩:=h;cases h;exact II _ hg
 ·cases h
noncomputable def CR(y0:List af)(y1:Int)(y2:Int)(y3:List af):St:=⟨[(3,.c (.one (.h 384 0 0 []))),(7,.c (.one (.ro .item y0))),(8,.c (.one (.v (.int .i64 y1)))),(9,.c (.one (.v (.int .i64 y2))))],[],[(384,.live ⟨.item,.deep,0,[],y3⟩)]⟩
noncomputable def IK(y0:List af)(y1:Int)(y2:Int)(y3:Bool)(y4:List af):St:=⟨[(3,.c (.one (.h 384 0 0 []))),(7,.c (.one (.ro .item y0))),(8,.c (.one (.v (.int .i64 y1)))),(9,.c (.one (.v (.int .i64 y2)))),(10,.c (.one (.v (.bool y3))))],[],[(384,.live ⟨.item,.deep,0,[],y4⟩)]⟩
noncomputable def A4:Code:=(Try.f69.body).getD .skip
def Ey:Nat→Kp:=fF [⟨[0],[],[],[]⟩,⟨[0,3],[],[],[]⟩,⟨[3,7,8,9],[],[],[]⟩,⟨[3,7,8,9,10],[],[],[]⟩,⟨[3,5,7,8,9],[],[],[]⟩,⟨[3,7,8,9],[],[],[]⟩,⟨[3,7,8,9],[],[],[]⟩,⟨[2],[],[],[]⟩]
noncomputable def yE:Env:=bd.env [(61,Ev)]
noncomputable def rZ{R:Type}(n:Nat)(x0:Int→Bool→(List af)→Option R)(wB:List af)(wC:Int):Nat→Int→(List af)→Option R
  |0,_,_=>none
  |m+1,wA,wD=>
    (cond (decide (wA<wC))
   (cond ((decide ((0:Int)≤wA))&&(decide (wA<(wB.length:Int))))
    (cond (bn (ax (t:= .item) wB (Int.toNat wA)))
     (cond (Nat.ble (wD.length+1) fO)
      (rZ n x0 wB wC m (IntKind.wrap .i64 (wA+(1:Int))) (wD++([(ax (t:= .item) wB (Int.toNat wA))]:List af)))
      none)
     none)
    none)
   (x0 wA (decide (wA<wC)) wD))
theorem NO{R:Type}(n:Nat)(k':Kx R)(wB:List af)(wC:Int)(wA:Int)(wD:List af):ev yE Ey n (cM [1,1,0,1,0,0] A4) (CR wB wC wA wD) k'=
 (cond (decide (wA<wC))
 (cond ((decide ((0:Int)≤wA))&&(decide (wA<(wB.length:Int))))
 (cond (bn (ax (t:= .item) wB (Int.toNat wA)))
 (cond (Nat.ble (wD.length+1) fO)
 (k' .normal (CR wB wC (IntKind.wrap .i64 (wA+(1:Int))) (wD++([(ax (t:= .item) wB (Int.toNat wA))]:List af))))
 none)
 none)
 none)
 (k' (.exit 0) (IK wB wC wA (decide (wA<wC)) wD))):=by kernel_rfl
theorem IL{R:Type}(n:Nat)(k':Kx R)(wB:List af)(wC:Int):∀(m:Nat)(wA:Int)(wD:List af),iter (fun st k=>ev yE Ey n (cM [1,1,0,1,0,0] A4) st k) m (CR wB wC wA wD) k'=rZ n (fun(wF:Int)(wG:Bool)(wE:List af)=>k' (.exit 0) (IK wB wC wF wG wE)) wB wC m wA wD:=by
 intro m;induction m with
 |zero=>intros;rfl
 |succ m ih=>
  intro wA wD
  simp only[iter]
  rw[NO]
  simp only[ih,rZ]
noncomputable def Qo{R:Type}(n:Nat)(k':Kx R):Kx R:=(cL 0 (gd yE Ey n (cM [1,1,1] A4) k'))
theorem IM{R:Type}(n:Nat)(k:Kt R)(a0:List af)(wB:List af)(wC:Int)(wF:Int)(wG:Bool)(wE:List af):Qo n (bt yE [.ro] [false] true [.tmp 2] [35] [.d (.sl .item) a0] k) (.exit 0) (IK wB wC wF wG wE)=
 (k [.d (.sl .item) wE]):=by kernel_rfl
theorem NP{R:Type}(n:Nat)(k:Kt R)(a0:List af):aO yE Ey n A4 [.ro] [false] true [.tmp 2] [35] [.d (.sl .item) a0] k=
 (rZ n (fun(wF:Int)(wG:Bool)(wE:List af)=>
 (k [.d (.sl .item) wE])) a0 (a0.length:Int) n (0:Int) ([]:List af)):=by
 refine Eq.trans (b:=(iter (fun st k=>ev yE Ey n (cM [1,1,0,1,0,0] A4) st k) n (CR a0 (a0.length:Int) (0:Int) ([]:List af)) (Qo n (bt yE [.ro] [false] true [.tmp 2] [35] [.d (.sl .item) a0] k)))) (by kernel_rfl) ?_
 simp only[IL,IM]
theorem IN(a0:List af)(hg:gC bn a0=true):∃keep rounds,∀{R:Type}(k:Kt R),aO yE keep rounds A4 [.ro] [false] true [.tmp 2] [35] [.d (.sl .item) a0] k=k [.d (.sl .item) a0]:=by
 have hl:=dU hg
 refine⟨Ey,a0.length+1,fun {R} k=> ?_⟩
 rw[NP]
 refine Eq.trans (yp (xs:=a0) (F:=fun m j out=>rZ (a0.length+1) _ a0 (a0.length:Int) m (j:Int) out) (f:=fun out x=>out++[x]) (good:=fun out=>k [.d (.sl .item) out]) (fun j out=>out.length≤j)
  (fun j out x hx hi=>by simp only[List.length_append,List.length_cons,List.length_nil];omega) (fun m j out x hx hi=> ?_) (fun m out hi=>by simp only[rZ,kn,cond_false]) a0.length 0 (a0.length+1) [] (by omega) (by omega) (by simp)) ?_
 ·obtain⟨h1,h0,hw,ht⟩:=idx (l4 hx) (by omega)
  have hj:=l4 hx
  have hs:=List.all_eq_true.1 (gQ hg) x (List.mem_of_getElem? hx)
  have iC:Nat.ble (out.length+1) fO=true:=Nat.ble_eq_true_of_le (by have:(fO:Nat)=4294967296:=rfl;omega)
  simp only[rZ,h1,h0,hw,ht,dG (t:= .item) hx,Bool.and_self,cond_true,iC,same,gq,il,nK,uh,hs]
 ·rw[List.drop_zero,rO,List.nil_append]
noncomputable def q69:Qt
 | [.d (.sl .item) a0]=>some ((gC bn a0),[.d (.sl .item) a0])
 |_=>none
noncomputable def SK:Gm.Spec:=Gm.Spec.of [.ro] [false] true q69
theorem A5:Gm.Good Try.prog (69,SK):=by
 have hl:∀x∈[(61,Ev)],Gm.Good Try.prog x:=aU.2 ⟨oM,gD⟩
 refine⟨⟨aM (aV.env hl) (bd.cz hl) Try.func69 (by kernel_rfl:Try.f69.body=some A4) [35] (by kernel_rfl) ?_,_,Try.func69,by kernel_rfl,of_decide_eq_true (by kernel_rfl)⟩,Gm.Spec.aG _ _ _ _⟩
 intro ds outs h
 unfold q69 at h
 split at h
 ·simp only[Option.some.injEq,Prod.mk.injEq] at h;obtain⟨hg,h⟩:=h;cases h;exact IN _ hg
 ·cases h
noncomputable def SL:Code:=(Try.f65.body).getD .skip
def Wx:Nat→Kp:=fF [⟨[1,2],[],[],[]⟩,⟨[2],[],[],[]⟩]
noncomputable def Wy:Env:=bd.env [(67,Ww)]
theorem NQ{R:Type}(n:Nat)(k:Kt R)(a0:au):aO Wy Wx n SL [.ro] [false] true [.cell 2 29] [29] [.d .cZ a0] k=
 (cond (gC fp (au.list a0))
 (k [.d .cZ a0])
 none):=by kernel_rfl
theorem IP(a0:au)(hg:bI a0=true):∃keep rounds,∀{R:Type}(k:Kt R),aO Wy keep rounds SL [.ro] [false] true [.cell 2 29] [29] [.d .cZ a0] k=k [.d .cZ a0]:=by
 simp only[bI,Bool.and_eq_true] at hg
 refine⟨Wx,0,fun {R} k=> ?_⟩
 rw[NQ]
 simp only[hg.2,cond_true]
noncomputable def q65:Qt
 | [.d .cZ a0]=>some ((bI a0),[.d .cZ a0])
 |_=>none
noncomputable def Z1:Gm.Spec:=Gm.Spec.of [.ro] [false] true q65
theorem SM:Gm.Good Try.prog (65,Z1):=by
 have hl:∀x∈[(67,Ww)],Gm.Good Try.prog x:=aU.2 ⟨IJ,gD⟩
 refine⟨⟨aM (aV.env hl) (bd.cz hl) Try.func65 (by kernel_rfl:Try.f65.body=some SL) [29] (by kernel_rfl) ?_,_,Try.func65,by kernel_rfl,of_decide_eq_true (by kernel_rfl)⟩,Gm.Spec.aG _ _ _ _⟩
 intro ds outs h
 unfold q65 at h
 split at h
 ·simp only[Option.some.injEq,Prod.mk.injEq] at h;obtain⟨hg,h⟩:=h;cases h;exact IP _ hg
 ·cases h
noncomputable def SN:Code:=(Try.f54.body).getD .skip
def Wz:Nat→Kp:=fF [⟨[0,1,2],[],[],[]⟩,⟨[6],[],[],[]⟩]
noncomputable def WA:Env:=bd.env []
theorem NR{R:Type}(n:Nat)(k:Kt R)(a0:Int)(a1:Int)(a2:Int):aO WA Wz n SN [.ro,.ro,.ro] [false] true [.tmp 6] [4] [.d (.i .i64) a0,.d (.i .i64) a1,.d (.i .i64) a2] k=
 (cond (decide (a0≥a1))
 (k [.d .bool (decide (a0≤a2))])
 (k [.d .bool false])):=by kernel_rfl
theorem IQ(a0:Int)(a1:Int)(a2:Int):∃keep rounds,∀{R:Type}(k:Kt R),aO WA keep rounds SN [.ro,.ro,.ro] [false] true [.tmp 6] [4] [.d (.i .i64) a0,.d (.i .i64) a1,.d (.i .i64) a2] k=k [.d .bool (du a0 a1 a2)]:=by
 refine⟨Wz,0,fun k=> ?_⟩
 rw[NR];unfold du
 cases decide (a0≥a1)<;>rfl
noncomputable def q54:Qt
 | [.d (.i .i64) a0,.d (.i .i64) a1,.d (.i .i64) a2]=>some (true,[.d .bool (du a0 a1 a2)])
 |_=>none
noncomputable def Ez:Gm.Spec:=Gm.Spec.of [.ro,.ro,.ro] [false] true q54
theorem oN:Gm.Good Try.prog (54,Ez):=by
 have hl:∀x∈([]:List (Nat×Gm.Spec)),Gm.Good Try.prog x:=fun _ h=>by cases h
 refine⟨⟨aM (aV.env hl) (bd.cz hl) Try.func54 (by kernel_rfl:Try.f54.body=some SN) [4] (by kernel_rfl) ?_,_,Try.func54,by kernel_rfl,of_decide_eq_true (by kernel_rfl)⟩,Gm.Spec.aG _ _ _ _⟩
 intro ds outs h
 unfold q54 at h
 split at h
 ·cases h;exact IQ _ _ _
 ·cases h
noncomputable def SO:Code:=(Try.f56.body).getD .skip
def WB:Nat→Kp:=fF [⟨[0,1,2],[],[],[]⟩,⟨[6],[],[],[]⟩]
noncomputable def WC:Env:=bd.env []
theorem NS{R:Type}(n:Nat)(k:Kt R)(a0:Int)(a1:Int)(a2:Int):aO WC WB n SO [.ro,.ro,.ro] [false] true [.tmp 6] [4] [.d (.i .i64) a0,.d (.i .i64) a1,.d (.i .i64) a2] k=
 (cond (decide (a0≥a1))
 (k [.d .bool (decide (a0≤a2))])
 (k [.d .bool false])):=by kernel_rfl
theorem IS(a0:Int)(a1:Int)(a2:Int):∃keep rounds,∀{R:Type}(k:Kt R),aO WC keep rounds SO [.ro,.ro,.ro] [false] true [.tmp 6] [4] [.d (.i .i64) a0,.d (.i .i64) a1,.d (.i .i64) a2] k=k [.d .bool (du a0 a1 a2)]:=by
 refine⟨WB,0,fun k=> ?_⟩
 rw[NS];unfold du
 cases decide (a0≥a1)<;>rfl
noncomputable def q56:Qt
 | [.d (.i .i64) a0,.d (.i .i64) a1,.d (.i .i64) a2]=>some (true,[.d .bool (du a0 a1 a2)])
 |_=>none
noncomputable def tp:Gm.Spec:=Gm.Spec.of [.ro,.ro,.ro] [false] true q56
theorem jY:Gm.Good Try.prog (56,tp):=by
 have hl:∀x∈([]:List (Nat×Gm.Spec)),Gm.Good Try.prog x:=fun _ h=>by cases h
 refine⟨⟨aM (aV.env hl) (bd.cz hl) Try.func56 (by kernel_rfl:Try.f56.body=some SO) [4] (by kernel_rfl) ?_,_,Try.func56,by kernel_rfl,of_decide_eq_true (by kernel_rfl)⟩,Gm.Spec.aG _ _ _ _⟩
 intro ds outs h
 unfold q56 at h
 split at h
 ·cases h;exact IS _ _ _
 ·cases h
noncomputable def IT:Code:=(Try.f148.body).getD .skip
def Qp:Nat→Kp:=fF [⟨[0],[],[],[]⟩,⟨[2],[],[],[]⟩]
noncomputable def Qq:Env:=bd.env []
theorem IU{R:Type}(n:Nat)(k:Kt R)(a0:Int):aO Qq Qp n IT [.ro] [false] true [.tmp 2] [4] [.d (.i .u8) a0] k=
 (cond (decide (a0≥(97:Int)))
 (cond (decide (a0≤(122:Int)))
 (k [.d .bool true])
 (cond (decide (a0≥(65:Int)))
 (k [.d .bool (decide (a0≤(90:Int)))])
 (k [.d .bool false])))
 (cond (decide (a0≥(65:Int)))
 (k [.d .bool (decide (a0≤(90:Int)))])
 (k [.d .bool false]))):=by kernel_rfl
theorem EA(a0:Int):∃keep rounds,∀{R:Type}(k:Kt R),aO Qq keep rounds IT [.ro] [false] true [.tmp 2] [4] [.d (.i .u8) a0] k=k [.d .bool (ie a0)]:=by
 refine⟨Qp,0,fun k=> ?_⟩
 rw[IU];unfold ie
 cases decide (a0≥(97:Int))<;>cases decide (a0≤(122:Int))<;>cases decide (a0≥(65:Int))<;>rfl
noncomputable def WD:Qt
 | [.d (.i .u8) a0]=>some (true,[.d .bool (ie a0)])
 |_=>none
noncomputable def SP:Gm.Spec:=Gm.Spec.of [.ro] [false] true WD
theorem NT:Gm.Good Try.prog (148,SP):=by
 have hl:∀x∈([]:List (Nat×Gm.Spec)),Gm.Good Try.prog x:=fun _ h=>by cases h
 refine⟨⟨aM (aV.env hl) (bd.cz hl) Try.func148 (by kernel_rfl:Try.f148.body=some IT) [4] (by kernel_rfl) ?_,_,Try.func148,by kernel_rfl,of_decide_eq_true (by kernel_rfl)⟩,Gm.Spec.aG _ _ _ _⟩
 intro ds outs h
 unfold WD at h
 split at h
 ·cases h;exact EA _
 ·cases h
noncomputable def IV:Code:=(Try.f149.body).getD .skip
def Qr:Nat→Kp:=fF [⟨[0],[],[],[]⟩,⟨[2],[],[],[]⟩]
noncomputable def Qs:Env:=bd.env []
theorem IW{R:Type}(n:Nat)(k:Kt R)(a0:Int):aO Qs Qr n IV [.ro] [false] true [.tmp 2] [4] [.d (.i .u8) a0] k=
 (cond (decide (a0≥(97:Int)))
 (cond (decide (a0≤(122:Int)))
 (k [.d .bool true])
 (cond (decide (a0≥(65:Int)))
 (k [.d .bool (decide (a0≤(90:Int)))])
 (k [.d .bool false])))
 (cond (decide (a0≥(65:Int)))
 (k [.d .bool (decide (a0≤(90:Int)))])
 (k [.d .bool false]))):=by kernel_rfl
theorem EB(a0:Int):∃keep rounds,∀{R:Type}(k:Kt R),aO Qs keep rounds IV [.ro] [false] true [.tmp 2] [4] [.d (.i .u8) a0] k=k [.d .bool (ie a0)]:=by
 refine⟨Qr,0,fun k=> ?_⟩
 rw[IW];unfold ie
 cases decide (a0≥(97:Int))<;>cases decide (a0≤(122:Int))<;>cases decide (a0≥(65:Int))<;>rfl
noncomputable def WE:Qt
 | [.d (.i .u8) a0]=>some (true,[.d .bool (ie a0)])
 |_=>none
noncomputable def SQ:Gm.Spec:=Gm.Spec.of [.ro] [false] true WE
theorem NU:Gm.Good Try.prog (149,SQ):=by
 have hl:∀x∈([]:List (Nat×Gm.Spec)),Gm.Good Try.prog x:=fun _ h=>by cases h
 refine⟨⟨aM (aV.env hl) (bd.cz hl) Try.func149 (by kernel_rfl:Try.f149.body=some IV) [4] (by kernel_rfl) ?_,_,Try.func149,by kernel_rfl,of_decide_eq_true (by kernel_rfl)⟩,Gm.Spec.aG _ _ _ _⟩
 intro ds outs h
 unfold WE at h
 split at h
 ·cases h;exact EB _
 ·cases h
noncomputable def IX:Code:=(Try.f128.body).getD .skip
def Qu:Nat→Kp:=fF [⟨[0],[],[],[]⟩,⟨[2],[],[],[]⟩]
noncomputable def Qv:Env:=bd.env []
theorem IY{R:Type}(n:Nat)(k:Kt R)(a0:Int):aO Qv Qu n IX [.ro] [false] true [.tmp 2] [4] [.d (.i .u8) a0] k=
 (cond (decide (a0≥(48:Int)))
 (k [.d .bool (decide (a0≤(57:Int)))])
 (k [.d .bool false])):=by kernel_rfl
theorem EC(a0:Int):∃keep rounds,∀{R:Type}(k:Kt R),aO Qv keep rounds IX [.ro] [false] true [.tmp 2] [4] [.d (.i .u8) a0] k=k [.d .bool (digit a0)]:=by
 refine⟨Qu,0,fun k=> ?_⟩
 rw[IY];unfold digit
 cases decide (a0≥(48:Int))<;>rfl
noncomputable def WG:Qt
 | [.d (.i .u8) a0]=>some (true,[.d .bool (digit a0)])
 |_=>none
noncomputable def IZ:Gm.Spec:=Gm.Spec.of [.ro] [false] true WG
theorem CS:Gm.Good Try.prog (128,IZ):=by
 have hl:∀x∈([]:List (Nat×Gm.Spec)),Gm.Good Try.prog x:=fun _ h=>by cases h
 refine⟨⟨aM (aV.env hl) (bd.cz hl) Try.func128 (by kernel_rfl:Try.f128.body=some IX) [4] (by kernel_rfl) ?_,_,Try.func128,by kernel_rfl,of_decide_eq_true (by kernel_rfl)⟩,Gm.Spec.aG _ _ _ _⟩
 intro ds outs h
 unfold WG at h
 split at h
 ·cases h;exact EC _
 ·cases h
noncomputable def mA(y0:BA)(y1:Int):St:=⟨[(0,.c (.one (.v (.string y0)))),(3,.c (.one (.v (.int .i64 y1))))],[],[]⟩
noncomputable def pg:St:=⟨[(2,.c (.one (.v (.bool false))))],[],[]⟩
noncomputable def I5(y0:BA)(y1:Int)(y2:Bool):St:=⟨[(0,.c (.one (.v (.string y0)))),(3,.c (.one (.v (.int .i64 y1)))),(8,.c (.one (.v (.bool y2))))],[],[]⟩
noncomputable def A6:Code:=(Try.f91.body).getD .skip
def ED:Nat→Kp:=fF [⟨[0],[],[],[]⟩,⟨[0,3],[],[],[]⟩,⟨[0,3,8],[],[],[]⟩,⟨[0,3],[],[],[]⟩,⟨[0,3,4],[],[],[]⟩,⟨[0,3,36],[],[],[]⟩,⟨[2],[],[],[]⟩,⟨[2],[],[],[]⟩]
noncomputable def vT:Env:=bd.env [(54,Ez)]
noncomputable def kz{R:Type}(n:Nat)(x0:Option R)(x1:Int→Bool→Option R)(wA:BA):Nat→Int→Option R
  |0,_=>none
  |m+1,wB=>
    (cond (decide (wB<(ByteArray.size wA:Int)))
   (cond ((decide ((0:Int)≤wB))&&(decide (wB<(ByteArray.size wA:Int))))
    (cond (decide ((((ByteArray.data wA).getD (Int.toNat wB) 0).toNat:Int)≥(97:Int)))
     (cond (decide ((((ByteArray.data wA).getD (Int.toNat wB) 0).toNat:Int)≤(122:Int)))
      (kz n x0 x1 wA m (IntKind.wrap .i64 (wB+(1:Int))))
      (cond (decide (wB>(0:Int)))
       (cond (decide ((((ByteArray.data wA).getD (Int.toNat wB) 0).toNat:Int)≥(48:Int)))
        (cond (decide ((((ByteArray.data wA).getD (Int.toNat wB) 0).toNat:Int)≤(57:Int)))
         (kz n x0 x1 wA m (IntKind.wrap .i64 (wB+(1:Int))))
         (cond (!((((ByteArray.data wA).getD (Int.toNat wB) 0).toNat:Int)==(45:Int)))
          (x0)
          (kz n x0 x1 wA m (IntKind.wrap .i64 (wB+(1:Int))))))
        (cond (!((((ByteArray.data wA).getD (Int.toNat wB) 0).toNat:Int)==(45:Int)))
         (x0)
         (kz n x0 x1 wA m (IntKind.wrap .i64 (wB+(1:Int))))))
       (x0)))
     (cond (decide (wB>(0:Int)))
      (cond (decide ((((ByteArray.data wA).getD (Int.toNat wB) 0).toNat:Int)≥(48:Int)))
       (cond (decide ((((ByteArray.data wA).getD (Int.toNat wB) 0).toNat:Int)≤(57:Int)))
        (kz n x0 x1 wA m (IntKind.wrap .i64 (wB+(1:Int))))
        (cond (!((((ByteArray.data wA).getD (Int.toNat wB) 0).toNat:Int)==(45:Int)))
         (x0)
         (kz n x0 x1 wA m (IntKind.wrap .i64 (wB+(1:Int))))))
       (cond (!((((ByteArray.data wA).getD (Int.toNat wB) 0).toNat:Int)==(45:Int)))
        (x0)
        (kz n x0 x1 wA m (IntKind.wrap .i64 (wB+(1:Int))))))
      (x0)))
    none)
   (x1 wB (decide (wB<(ByteArray.size wA:Int)))))
theorem NV{R:Type}(n:Nat)(k':Kx R)(wA:BA)(wB:Int):ev vT ED n (cM [1,0,1,0,0] A6) (mA wA wB) k'=
 (cond (decide (wB<(ByteArray.size wA:Int)))
 (cond ((decide ((0:Int)≤wB))&&(decide (wB<(ByteArray.size wA:Int))))
 (cond (decide ((((ByteArray.data wA).getD (Int.toNat wB) 0).toNat:Int)≥(97:Int)))
 (cond (decide ((((ByteArray.data wA).getD (Int.toNat wB) 0).toNat:Int)≤(122:Int)))
 (k' .normal (mA wA (IntKind.wrap .i64 (wB+(1:Int)))))
 (cond (decide (wB>(0:Int)))
 (cond (decide ((((ByteArray.data wA).getD (Int.toNat wB) 0).toNat:Int)≥(48:Int)))
 (cond (decide ((((ByteArray.data wA).getD (Int.toNat wB) 0).toNat:Int)≤(57:Int)))
 (k' .normal (mA wA (IntKind.wrap .i64 (wB+(1:Int)))))
 (cond (!((((ByteArray.data wA).getD (Int.toNat wB) 0).toNat:Int)==(45:Int)))
 (k' .ret pg)
 (k' .normal (mA wA (IntKind.wrap .i64 (wB+(1:Int)))))))
 (cond (!((((ByteArray.data wA).getD (Int.toNat wB) 0).toNat:Int)==(45:Int)))
 (k' .ret pg)
 (k' .normal (mA wA (IntKind.wrap .i64 (wB+(1:Int)))))))
 (k' .ret pg)))
 (cond (decide (wB>(0:Int)))
 (cond (decide ((((ByteArray.data wA).getD (Int.toNat wB) 0).toNat:Int)≥(48:Int)))
 (cond (decide ((((ByteArray.data wA).getD (Int.toNat wB) 0).toNat:Int)≤(57:Int)))
 (k' .normal (mA wA (IntKind.wrap .i64 (wB+(1:Int)))))
 (cond (!((((ByteArray.data wA).getD (Int.toNat wB) 0).toNat:Int)==(45:Int)))
 (k' .ret pg)
 (k' .normal (mA wA (IntKind.wrap .i64 (wB+(1:Int)))))))
 (cond (!((((ByteArray.data wA).getD (Int.toNat wB) 0).toNat:Int)==(45:Int)))
 (k' .ret pg)
 (k' .normal (mA wA (IntKind.wrap .i64 (wB+(1:Int)))))))
 (k' .ret pg)))
 none)
 (k' (.exit 0) (I5 wA wB (decide (wB<(ByteArray.size wA:Int)))))):=by kernel_rfl
theorem I6{R:Type}(n:Nat)(k':Kx R)(wA:BA):∀(m:Nat)(wB:Int),iter (fun st k=>ev vT ED n (cM [1,0,1,0,0] A6) st k) m (mA wA wB) k'=kz n (k' .ret pg) (fun(wG:Int)(wH:Bool)=>k' (.exit 0) (I5 wA wG wH)) wA m wB:=by
 intro m;induction m with
 |zero=>intros;rfl
 |succ m ih=>
  intro wB
  simp only[iter]
  rw[NV]
  simp only[ih,kz]
noncomputable def I7{R:Type}(n:Nat)(k':Kx R):Kx R:=(cL 0 (gd vT ED n (cM [1,1] A6) k'))
theorem I8{R:Type}(n:Nat)(k:Kt R)(a0:BA):I7 n (bt vT [.ro] [false] true [.tmp 2] [4] [.d .str a0] k) .ret pg=
 (k [.d .bool false]):=by kernel_rfl
theorem I9{R:Type}(n:Nat)(k:Kt R)(a0:BA)(wA:BA)(wG:Int)(wH:Bool):I7 n (bt vT [.ro] [false] true [.tmp 2] [4] [.d .str a0] k) (.exit 0) (I5 wA wG wH)=
 (k [.d .bool (du (ByteArray.size wA:Int) (1:Int) (20:Int))]):=by kernel_rfl
theorem NW{R:Type}(n:Nat)(k:Kt R)(a0:BA):aO vT ED n A6 [.ro] [false] true [.tmp 2] [4] [.d .str a0] k=
 (kz n (k [.d .bool false]) (fun(wG:Int)(wH:Bool)=>
 (k [.d .bool (du (ByteArray.size a0:Int) (1:Int) (20:Int))])) a0 n (0:Int)):=by
 refine Eq.trans (b:=(iter (fun st k=>ev vT ED n (cM [1,0,1,0,0] A6) st k) n (mA a0 (0:Int)) (I7 n (bt vT [.ro] [false] true [.tmp 2] [4] [.d .str a0] k)))) (by kernel_rfl) ?_
 simp only[I6,I8,I9]
theorem Ja(a0:BA)(hg:eD a0=true):∃keep rounds,∀{R:Type}(k:Kt R),aO vT keep rounds A6 [.ro] [false] true [.tmp 2] [4] [.d .str a0] k=k [.d .bool (dK a0)]:=by
 have hl:a0.size≤9223372036854775807:=gT hg
 refine⟨ED,a0.size+1,fun {R} k=> ?_⟩
 rw[NW]
 refine Eq.trans (eW (n:=a0.size) (F:=fun m i=>kz (a0.size+1) _ _ a0 m i) (p:=fun j=>nJ (j:Int) (eL a0 j)) (good:=_) (bad:=k [.d .bool false])
  (fun m j hj=> ?_) (fun m=>by simp only[kz,kn,cond_false];rfl) a0.size 0 (a0.size+1) (by omega) (by omega)) ?_
 ·obtain⟨h1,h0,hw,ht⟩:=idx hj (by omega)
  simp only[kz,h1,h0,hw,ht,Bool.and_self,cond_true]
  show _=cond (nJ (j:Int) (((ByteArray.data a0).getD j 0).toNat:Int)) _ _
  generalize (((ByteArray.data a0).getD j 0).toNat:Int)=c
  unfold nJ
  rw[show decide ((j:Int)>(0:Int)) = !((j:Int)==(0:Int)) by rw[Bool.eq_iff_iff];simp;omega]
  unfold digit
  cases decide (c≥(97:Int))<;>cases decide (c≤(122:Int))<;>cases ((j:Int)==(0:Int))<;>cases decide (c≥(48:Int))<;>cases decide (c≤(57:Int))<;>cases (c==(45:Int))<;>rfl
 ·unfold dK
  cases ic (fun j=>nJ (j:Int) (eL a0 j)) 0 a0.size<;>rfl
noncomputable def q91:Qt
 | [.d .str a0]=>some ((eD a0),[.d .bool (dK a0)])
 |_=>none
noncomputable def WH:Gm.Spec:=Gm.Spec.of [.ro] [false] true q91
theorem Jb:Gm.Good Try.prog (91,WH):=by
 have hl:∀x∈[(54,Ez)],Gm.Good Try.prog x:=aU.2 ⟨oN,gD⟩
 refine⟨⟨aM (aV.env hl) (bd.cz hl) Try.func91 (by kernel_rfl:Try.f91.body=some A6) [4] (by kernel_rfl) ?_,_,Try.func91,by kernel_rfl,of_decide_eq_true (by kernel_rfl)⟩,Gm.Spec.aG _ _ _ _⟩
 intro ds outs h
 unfold q91 at h
 split at h
 ·simp only[Option.some.injEq,Prod.mk.injEq] at h;obtain⟨hg,h⟩:=h;cases h;exact Ja _ hg
 ·cases h
noncomputable def ph(y0:BA)(y1:Int)(y2:Int):St:=⟨[(0,.c (.one (.v (.string y0)))),(6,.c (.one (.v (.int .i64 y1)))),(7,.c (.one (.v (.int .i64 y2))))],[],[]⟩
noncomputable def uz:St:=⟨[(2,.c (.one (.v (.bool false))))],[],[]⟩
noncomputable def Jc(y0:BA)(y1:Int)(y2:Int)(y3:Bool):St:=⟨[(0,.c (.one (.v (.string y0)))),(6,.c (.one (.v (.int .i64 y1)))),(7,.c (.one (.v (.int .i64 y2)))),(8,.c (.one (.v (.bool y3))))],[],[]⟩
noncomputable def A7:Code:=(Try.f96.body).getD .skip
def EE:Nat→Kp:=fF [⟨[0],[],[],[]⟩,⟨[0,6,7],[],[],[]⟩,⟨[0,6,7,8],[],[],[]⟩,⟨[0,3,6,7],[],[],[]⟩,⟨[0,3,4,6,7],[],[],[]⟩,⟨[0,6,7,38],[],[],[]⟩,⟨[2],[],[],[]⟩,⟨[0,6,7],[],[],[]⟩,⟨[2],[],[],[]⟩]
noncomputable def vU:Env:=bd.env [(56,tp),(128,IZ)]
noncomputable def lK{R:Type}(n:Nat)(x0:Option R)(x1:Int→Bool→Option R)(wA:BA)(wD:Int):Nat→Int→Option R
  |0,_=>none
  |m+1,wC=>
    (cond (decide (wC<wD))
   (cond ((decide ((0:Int)≤wC))&&(decide (wC<(ByteArray.size wA:Int))))
    (cond (decide ((((ByteArray.data wA).getD (Int.toNat wC) 0).toNat:Int)≥(97:Int)))
     (cond ((decide ((0:Int)≤wC))&&(decide (wC<(ByteArray.size wA:Int))))
      (cond (!(decide ((((ByteArray.data wA).getD (Int.toNat wC) 0).toNat:Int)≤(122:Int))))
       (cond (wC==(0:Int))
        (x0)
        (cond ((decide ((0:Int)≤wC))&&(decide (wC<(ByteArray.size wA:Int))))
         (cond (!(digit (((ByteArray.data wA).getD (Int.toNat wC) 0).toNat:Int)))
          (cond ((decide ((0:Int)≤wC))&&(decide (wC<(ByteArray.size wA:Int))))
           (cond ((((ByteArray.data wA).getD (Int.toNat wC) 0).toNat:Int) !=(45:Int))
            (x0)
            (lK n x0 x1 wA wD m (IntKind.wrap .i64 (wC+(1:Int)))))
           none)
          (lK n x0 x1 wA wD m (IntKind.wrap .i64 (wC+(1:Int)))))
         none))
       (lK n x0 x1 wA wD m (IntKind.wrap .i64 (wC+(1:Int)))))
      none)
     (cond (wC==(0:Int))
      (x0)
      (cond ((decide ((0:Int)≤wC))&&(decide (wC<(ByteArray.size wA:Int))))
       (cond (!(digit (((ByteArray.data wA).getD (Int.toNat wC) 0).toNat:Int)))
        (cond ((decide ((0:Int)≤wC))&&(decide (wC<(ByteArray.size wA:Int))))
         (cond ((((ByteArray.data wA).getD (Int.toNat wC) 0).toNat:Int) !=(45:Int))
          (x0)
          (lK n x0 x1 wA wD m (IntKind.wrap .i64 (wC+(1:Int)))))
         none)
        (lK n x0 x1 wA wD m (IntKind.wrap .i64 (wC+(1:Int)))))
       none)))
    none)
   (x1 wC (decide (wC<wD))))
theorem NX{R:Type}(n:Nat)(k':Kx R)(wA:BA)(wD:Int)(wC:Int):ev vU EE n (cM [1,0,1,0,0] A7) (ph wA wD wC) k'=
 (cond (decide (wC<wD))
 (cond ((decide ((0:Int)≤wC))&&(decide (wC<(ByteArray.size wA:Int))))
 (cond (decide ((((ByteArray.data wA).getD (Int.toNat wC) 0).toNat:Int)≥(97:Int)))
 (cond ((decide ((0:Int)≤wC))&&(decide (wC<(ByteArray.size wA:Int))))
 (cond (!(decide ((((ByteArray.data wA).getD (Int.toNat wC) 0).toNat:Int)≤(122:Int))))
 (cond (wC==(0:Int))
 (k' .ret uz)
 (cond ((decide ((0:Int)≤wC))&&(decide (wC<(ByteArray.size wA:Int))))
 (cond (!(digit (((ByteArray.data wA).getD (Int.toNat wC) 0).toNat:Int)))
 (cond ((decide ((0:Int)≤wC))&&(decide (wC<(ByteArray.size wA:Int))))
 (cond ((((ByteArray.data wA).getD (Int.toNat wC) 0).toNat:Int) !=(45:Int))
 (k' .ret uz)
 (k' .normal (ph wA wD (IntKind.wrap .i64 (wC+(1:Int))))))
 none)
 (k' .normal (ph wA wD (IntKind.wrap .i64 (wC+(1:Int))))))
 none))
 (k' .normal (ph wA wD (IntKind.wrap .i64 (wC+(1:Int))))))
 none)
 (cond (wC==(0:Int))
 (k' .ret uz)
 (cond ((decide ((0:Int)≤wC))&&(decide (wC<(ByteArray.size wA:Int))))
 (cond (!(digit (((ByteArray.data wA).getD (Int.toNat wC) 0).toNat:Int)))
 (cond ((decide ((0:Int)≤wC))&&(decide (wC<(ByteArray.size wA:Int))))
 (cond ((((ByteArray.data wA).getD (Int.toNat wC) 0).toNat:Int) !=(45:Int))
 (k' .ret uz)
 (k' .normal (ph wA wD (IntKind.wrap .i64 (wC+(1:Int))))))
 none)
 (k' .normal (ph wA wD (IntKind.wrap .i64 (wC+(1:Int))))))
 none)))
 none)
 (k' (.exit 0) (Jc wA wD wC (decide (wC<wD))))):=by kernel_rfl
theorem Jd{R:Type}(n:Nat)(k':Kx R)(wA:BA)(wD:Int):∀(m:Nat)(wC:Int),iter (fun st k=>ev vU EE n (cM [1,0,1,0,0] A7) st k) m (ph wA wD wC) k'=lK n (k' .ret uz) (fun(wF:Int)(wH:Bool)=>k' (.exit 0) (Jc wA wD wF wH)) wA wD m wC:=by
 intro m;induction m with
 |zero=>intros;rfl
 |succ m ih=>
  intro wC
  simp only[iter]
  rw[NX]
  simp only[ih,lK]
noncomputable def Je{R:Type}(n:Nat)(k':Kx R):Kx R:=(cL 0 (gd vU EE n (cM [1,1] A7) k'))
theorem Jf{R:Type}(n:Nat)(k:Kt R)(a0:BA):Je n (bt vU [.ro] [false] true [.tmp 2] [4] [.d .str a0] k) .ret uz=
 (k [.d .bool false]):=by kernel_rfl
theorem Jg{R:Type}(n:Nat)(k:Kt R)(a0:BA)(wA:BA)(wD:Int)(wF:Int)(wH:Bool):Je n (bt vU [.ro] [false] true [.tmp 2] [4] [.d .str a0] k) (.exit 0) (Jc wA wD wF wH)=
 (k [.d .bool (du (ByteArray.size wA:Int) (1:Int) (20:Int))]):=by kernel_rfl
theorem NY{R:Type}(n:Nat)(k:Kt R)(a0:BA):aO vU EE n A7 [.ro] [false] true [.tmp 2] [4] [.d .str a0] k=
 (lK n (k [.d .bool false]) (fun(wF:Int)(wH:Bool)=>
 (k [.d .bool (du (ByteArray.size a0:Int) (1:Int) (20:Int))])) a0 (ByteArray.size a0:Int) n (0:Int)):=by
 refine Eq.trans (b:=(iter (fun st k=>ev vU EE n (cM [1,0,1,0,0] A7) st k) n (ph a0 (ByteArray.size a0:Int) (0:Int)) (Je n (bt vU [.ro] [false] true [.tmp 2] [4] [.d .str a0] k)))) (by kernel_rfl) ?_
 simp only[Jd,Jf,Jg]
theorem Jh(a0:BA)(hg:eD a0=true):∃keep rounds,∀{R:Type}(k:Kt R),aO vU keep rounds A7 [.ro] [false] true [.tmp 2] [4] [.d .str a0] k=k [.d .bool (dK a0)]:=by
 have hl:a0.size≤9223372036854775807:=gT hg
 refine⟨EE,a0.size+1,fun {R} k=> ?_⟩
 rw[NY]
 refine Eq.trans (eW (n:=a0.size) (F:=fun m i=>lK (a0.size+1) _ _ a0 (a0.size:Int) m i) (p:=fun j=>nJ (j:Int) (eL a0 j)) (good:=_) (bad:=k [.d .bool false])
  (fun m j hj=> ?_) (fun m=>by simp only[lK,kn,cond_false];rfl) a0.size 0 (a0.size+1) (by omega) (by omega)) ?_
 ·obtain⟨h1,h0,hw,ht⟩:=idx hj (by omega)
  simp only[lK,h1,h0,hw,ht,Bool.and_self,cond_true]
  show _=cond (nJ (j:Int) (((ByteArray.data a0).getD j 0).toNat:Int)) _ _
  generalize (((ByteArray.data a0).getD j 0).toNat:Int)=c
  unfold nJ
  simp only[bne]
  cases decide (c≥(97:Int))<;>cases decide (c≤(122:Int))<;>cases ((j:Int)==(0:Int))<;>cases digit c<;>cases (c==(45:Int))<;>rfl
 ·unfold dK
  cases ic (fun j=>nJ (j:Int) (eL a0 j)) 0 a0.size<;>rfl
noncomputable def q96:Qt
 | [.d .str a0]=>some ((eD a0),[.d .bool (dK a0)])
 |_=>none
noncomputable def WI:Gm.Spec:=Gm.Spec.of [.ro] [false] true q96
theorem Ji:Gm.Good Try.prog (96,WI):=by
 have hl:∀x∈[(56,tp),(128,IZ)],Gm.Good Try.prog x:=aU.2 ⟨jY,aU.2 ⟨CS,gD⟩⟩
 refine⟨⟨aM (aV.env hl) (bd.cz hl) Try.func96 (by kernel_rfl:Try.f96.body=some A7) [4] (by kernel_rfl) ?_,_,Try.func96,by kernel_rfl,of_decide_eq_true (by kernel_rfl)⟩,Gm.Spec.aG _ _ _ _⟩
 intro ds outs h
 unfold q96 at h
 split at h
 ·simp only[Option.some.injEq,Prod.mk.injEq] at h;obtain⟨hg,h⟩:=h;cases h;exact Jh _ hg
 ·cases h
noncomputable def vV(y0:BA)(y1:Int):St:=⟨[(0,.c (.one (.v (.string y0)))),(3,.c (.one (.v (.int .i64 y1))))],[],[]⟩
noncomputable def vW:St:=⟨[(2,.c (.one (.v (.bool false))))],[],[]⟩
noncomputable def A8(y0:BA)(y1:Int)(y2:Bool):St:=⟨[(0,.c (.one (.v (.string y0)))),(3,.c (.one (.v (.int .i64 y1)))),(7,.c (.one (.v (.bool y2))))],[],[]⟩
noncomputable def r3:Code:=(Try.f127.body).getD .skip
def uD:Nat→Kp:=fF [⟨[0],[],[],[]⟩,⟨[0,3],[],[],[]⟩,⟨[0,3,7],[],[],[]⟩,⟨[0,3],[],[],[]⟩,⟨[0,3,19],[],[],[]⟩,⟨[2],[],[],[]⟩,⟨[2],[],[],[]⟩]
noncomputable def nQ:Env:=bd.env []
noncomputable def mS{R:Type}(n:Nat)(x0:Option R)(x1:Int→Bool→Option R)(wA:BA):Nat→Int→Option R
  |0,_=>none
  |m+1,wB=>
    (cond (decide (wB<(ByteArray.size wA:Int)))
   (cond ((decide ((0:Int)≤wB))&&(decide (wB<(ByteArray.size wA:Int))))
    (cond (decide ((((ByteArray.data wA).getD (Int.toNat wB) 0).toNat:Int)<(32:Int)))
     (x0)
     (cond ((decide ((0:Int)≤wB))&&(decide (wB<(ByteArray.size wA:Int))))
      (cond (decide ((((ByteArray.data wA).getD (Int.toNat wB) 0).toNat:Int)>(126:Int)))
       (x0)
       (mS n x0 x1 wA m (IntKind.wrap .i64 (wB+(1:Int)))))
      none))
    none)
   (x1 wB (decide (wB<(ByteArray.size wA:Int)))))
theorem Jj{R:Type}(n:Nat)(k':Kx R)(wA:BA)(wB:Int):ev nQ uD n (cM [1,0,1,0,0] r3) (vV wA wB) k'=
 (cond (decide (wB<(ByteArray.size wA:Int)))
 (cond ((decide ((0:Int)≤wB))&&(decide (wB<(ByteArray.size wA:Int))))
 (cond (decide ((((ByteArray.data wA).getD (Int.toNat wB) 0).toNat:Int)<(32:Int)))
 (k' .ret vW)
 (cond ((decide ((0:Int)≤wB))&&(decide (wB<(ByteArray.size wA:Int))))
 (cond (decide ((((ByteArray.data wA).getD (Int.toNat wB) 0).toNat:Int)>(126:Int)))
 (k' .ret vW)
 (k' .normal (vV wA (IntKind.wrap .i64 (wB+(1:Int))))))
 none))
 none)
 (k' (.exit 0) (A8 wA wB (decide (wB<(ByteArray.size wA:Int)))))):=by kernel_rfl
theorem EF{R:Type}(n:Nat)(k':Kx R)(wA:BA):∀(m:Nat)(wB:Int),iter (fun st k=>ev nQ uD n (cM [1,0,1,0,0] r3) st k) m (vV wA wB) k'=mS n (k' .ret vW) (fun(wG:Int)(wF:Bool)=>k' (.exit 0) (A8 wA wG wF)) wA m wB:=by
 intro m;induction m with
 |zero=>intros;rfl
 |succ m ih=>
  intro wB
  simp only[iter]
  rw[Jj]
  simp only[ih,mS]
noncomputable def A9{R:Type}(n:Nat)(k':Kx R):Kx R:=(cL 0 (gd nQ uD n (cM [1,1] r3) k'))
theorem EG{R:Type}(n:Nat)(k:Kt R)(a0:BA):A9 n (bt nQ [.ro] [false] true [.tmp 2] [4] [.d .str a0] k) .ret vW=
 (k [.d .bool false]):=by kernel_rfl
theorem EH{R:Type}(n:Nat)(k:Kt R)(a0:BA)(wA:BA)(wG:Int)(wF:Bool):A9 n (bt nQ [.ro] [false] true [.tmp 2] [4] [.d .str a0] k) (.exit 0) (A8 wA wG wF)=
 (k [.d .bool (decide ((ByteArray.size wA:Int)≤(400:Int)))]):=by kernel_rfl
theorem Jk{R:Type}(n:Nat)(k:Kt R)(a0:BA):aO nQ uD n r3 [.ro] [false] true [.tmp 2] [4] [.d .str a0] k=
 (mS n (k [.d .bool false]) (fun(wG:Int)(wF:Bool)=>
 (k [.d .bool (decide ((ByteArray.size a0:Int)≤(400:Int)))])) a0 n (0:Int)):=by
 refine Eq.trans (b:=(iter (fun st k=>ev nQ uD n (cM [1,0,1,0,0] r3) st k) n (vV a0 (0:Int)) (A9 n (bt nQ [.ro] [false] true [.tmp 2] [4] [.d .str a0] k)))) (by kernel_rfl) ?_
 simp only[EF,EG,EH]
theorem EI(a0:BA)(hg:eD a0=true):∃keep rounds,∀{R:Type}(k:Kt R),aO nQ keep rounds r3 [.ro] [false] true [.tmp 2] [4] [.d .str a0] k=k [.d .bool (gn a0)]:=by
 have hl:a0.size≤9223372036854775807:=gT hg
 refine⟨uD,a0.size+1,fun {R} k=> ?_⟩
 rw[Jk]
 refine Eq.trans (eW (n:=a0.size) (F:=fun m i=>mS (a0.size+1) _ _ a0 m i) (p:=fun j=>du (eL a0 j) 32 126) (good:=_) (bad:=k [.d .bool false])
  (fun m j hj=> ?_) (fun m=>by simp only[mS,kn,cond_false];rfl) a0.size 0 (a0.size+1) (by omega) (by omega)) ?_
 ·obtain⟨h1,h0,hw,ht⟩:=idx hj (by omega)
  have hc:0≤eL a0 j∧eL a0 j<256:=by
   unfold eL
   have:=UInt8.toNat_lt (a0.data.getD j 0)
   omega
  simp only[mS,h1,h0,hw,ht,Bool.and_self,cond_true]
  change 0≤(((ByteArray.data a0).getD j 0).toNat:Int)∧(((ByteArray.data a0).getD j 0).toNat:Int)<256 at hc
  show _=cond (du (((ByteArray.data a0).getD j 0).toNat:Int) 32 126) _ _
  generalize (((ByteArray.data a0).getD j 0).toNat:Int)=c at *
  unfold du
  rw[show decide (c<32) = !(decide (c≥32)) by rw[Bool.eq_iff_iff];simp,show decide (c>126) = !(decide (c≤126)) by rw[Bool.eq_iff_iff];simp]
  cases decide (c≥32)<;>cases decide (c≤126)<;>rfl
 ·unfold gn
  cases ic (fun j=>du (eL a0 j) 32 126) 0 a0.size<;>rfl
noncomputable def WJ:Qt
 | [.d .str a0]=>some ((eD a0),[.d .bool (gn a0)])
 |_=>none
noncomputable def SR:Gm.Spec:=Gm.Spec.of [.ro] [false] true WJ
theorem NZ:Gm.Good Try.prog (127,SR):=by
 have hl:∀x∈([]:List (Nat×Gm.Spec)),Gm.Good Try.prog x:=fun _ h=>by cases h
 refine⟨⟨aM (aV.env hl) (bd.cz hl) Try.func127 (by kernel_rfl:Try.f127.body=some r3) [4] (by kernel_rfl) ?_,_,Try.func127,by kernel_rfl,of_decide_eq_true (by kernel_rfl)⟩,Gm.Spec.aG _ _ _ _⟩
 intro ds outs h
 unfold WJ at h
 split at h
 ·simp only[Option.some.injEq,Prod.mk.injEq] at h;obtain⟨hg,h⟩:=h;cases h;exact EI _ hg
 ·cases h
noncomputable def vX(y0:BA)(y1:Int)(y2:Int):St:=⟨[(0,.c (.one (.v (.string y0)))),(5,.c (.one (.v (.int .i64 y1)))),(6,.c (.one (.v (.int .i64 y2))))],[],[]⟩
noncomputable def A':St:=⟨[(2,.c (.one (.v (.bool false))))],[],[]⟩
noncomputable def Ba(y0:BA)(y1:Int)(y2:Int)(y3:Bool):St:=⟨[(0,.c (.one (.v (.string y0)))),(5,.c (.one (.v (.int .i64 y1)))),(6,.c (.one (.v (.int .i64 y2)))),(7,.c (.one (.v (.bool y3))))],[],[]⟩
noncomputable def r4:Code:=(Try.f132.body).getD .skip
def uE:Nat→Kp:=fF [⟨[0],[],[],[]⟩,⟨[0,5,6],[],[],[]⟩,⟨[0,5,6,7],[],[],[]⟩,⟨[0,3,5,6],[],[],[]⟩,⟨[0,5,6,14],[],[],[]⟩,⟨[2],[],[],[]⟩,⟨[0,5,6],[],[],[]⟩,⟨[2],[],[],[]⟩]
noncomputable def nR:Env:=bd.env [(56,tp)]
noncomputable def mT{R:Type}(n:Nat)(x0:Option R)(x1:Int→Bool→Option R)(wA:BA)(wE:Int):Nat→Int→Option R
  |0,_=>none
  |m+1,wD=>
    (cond (decide (wD<wE))
   (cond ((decide ((0:Int)≤wD))&&(decide (wD<(ByteArray.size wA:Int))))
    (cond (!(du (IntKind.wrap .i64 (((ByteArray.data wA).getD (Int.toNat wD) 0).toNat:Int)) (32:Int) (126:Int)))
     (x0)
     (mT n x0 x1 wA wE m (IntKind.wrap .i64 (wD+(1:Int)))))
    none)
   (x1 wD (decide (wD<wE))))
theorem Jl{R:Type}(n:Nat)(k':Kx R)(wA:BA)(wE:Int)(wD:Int):ev nR uE n (cM [1,0,1,0,0] r4) (vX wA wE wD) k'=
 (cond (decide (wD<wE))
 (cond ((decide ((0:Int)≤wD))&&(decide (wD<(ByteArray.size wA:Int))))
 (cond (!(du (IntKind.wrap .i64 (((ByteArray.data wA).getD (Int.toNat wD) 0).toNat:Int)) (32:Int) (126:Int)))
 (k' .ret A')
 (k' .normal (vX wA wE (IntKind.wrap .i64 (wD+(1:Int))))))
 none)
 (k' (.exit 0) (Ba wA wE wD (decide (wD<wE))))):=by kernel_rfl
theorem EJ{R:Type}(n:Nat)(k':Kx R)(wA:BA)(wE:Int):∀(m:Nat)(wD:Int),iter (fun st k=>ev nR uE n (cM [1,0,1,0,0] r4) st k) m (vX wA wE wD) k'=mT n (k' .ret A') (fun(wI:Int)(wF:Bool)=>k' (.exit 0) (Ba wA wE wI wF)) wA wE m wD:=by
 intro m;induction m with
 |zero=>intros;rfl
 |succ m ih=>
  intro wD
  simp only[iter]
  rw[Jl]
  simp only[ih,mT]
noncomputable def Bb{R:Type}(n:Nat)(k':Kx R):Kx R:=(cL 0 (gd nR uE n (cM [1,1] r4) k'))
theorem EK{R:Type}(n:Nat)(k:Kt R)(a0:BA):Bb n (bt nR [.ro] [false] true [.tmp 2] [4] [.d .str a0] k) .ret A'=
 (k [.d .bool false]):=by kernel_rfl
theorem EL{R:Type}(n:Nat)(k:Kt R)(a0:BA)(wA:BA)(wE:Int)(wI:Int)(wF:Bool):Bb n (bt nR [.ro] [false] true [.tmp 2] [4] [.d .str a0] k) (.exit 0) (Ba wA wE wI wF)=
 (k [.d .bool (decide ((ByteArray.size wA:Int)≤(400:Int)))]):=by kernel_rfl
theorem Jm{R:Type}(n:Nat)(k:Kt R)(a0:BA):aO nR uE n r4 [.ro] [false] true [.tmp 2] [4] [.d .str a0] k=
 (mT n (k [.d .bool false]) (fun(wI:Int)(wF:Bool)=>
 (k [.d .bool (decide ((ByteArray.size a0:Int)≤(400:Int)))])) a0 (ByteArray.size a0:Int) n (0:Int)):=by
 refine Eq.trans (b:=(iter (fun st k=>ev nR uE n (cM [1,0,1,0,0] r4) st k) n (vX a0 (ByteArray.size a0:Int) (0:Int)) (Bb n (bt nR [.ro] [false] true [.tmp 2] [4] [.d .str a0] k)))) (by kernel_rfl) ?_
 simp only[EJ,EK,EL]
theorem EM(a0:BA)(hg:eD a0=true):∃keep rounds,∀{R:Type}(k:Kt R),aO nR keep rounds r4 [.ro] [false] true [.tmp 2] [4] [.d .str a0] k=k [.d .bool (gn a0)]:=by
 have hl:a0.size≤9223372036854775807:=gT hg
 refine⟨uE,a0.size+1,fun {R} k=> ?_⟩
 rw[Jm]
 refine Eq.trans (eW (n:=a0.size) (F:=fun m i=>mT (a0.size+1) _ _ a0 (a0.size:Int) m i) (p:=fun j=>du (eL a0 j) 32 126) (good:=_) (bad:=k [.d .bool false])
  (fun m j hj=> ?_) (fun m=>by simp only[mT,kn,cond_false];rfl) a0.size 0 (a0.size+1) (by omega) (by omega)) ?_
 ·obtain⟨h1,h0,hw,ht⟩:=idx hj (by omega)
  have hc:0≤eL a0 j∧eL a0 j<256:=by
   unfold eL
   have:=UInt8.toNat_lt (a0.data.getD j 0)
   omega
  simp only[mT,h1,h0,hw,ht,Bool.and_self,cond_true]
  change 0≤(((ByteArray.data a0).getD j 0).toNat:Int)∧(((ByteArray.data a0).getD j 0).toNat:Int)<256 at hc
  show _=cond (du (((ByteArray.data a0).getD j 0).toNat:Int) 32 126) _ _
  generalize (((ByteArray.data a0).getD j 0).toNat:Int)=c at *
  rw[cC (by omega) (by omega)]
  cases du c 32 126<;>rfl
 ·unfold gn
  cases ic (fun j=>du (eL a0 j) 32 126) 0 a0.size<;>rfl
noncomputable def WK:Qt
 | [.d .str a0]=>some ((eD a0),[.d .bool (gn a0)])
 |_=>none
noncomputable def SS:Gm.Spec:=Gm.Spec.of [.ro] [false] true WK
theorem N0:Gm.Good Try.prog (132,SS):=by
 have hl:∀x∈[(56,tp)],Gm.Good Try.prog x:=aU.2 ⟨jY,gD⟩
 refine⟨⟨aM (aV.env hl) (bd.cz hl) Try.func132 (by kernel_rfl:Try.f132.body=some r4) [4] (by kernel_rfl) ?_,_,Try.func132,by kernel_rfl,of_decide_eq_true (by kernel_rfl)⟩,Gm.Spec.aG _ _ _ _⟩
 intro ds outs h
 unfold WK at h
 split at h
 ·simp only[Option.some.injEq,Prod.mk.injEq] at h;obtain⟨hg,h⟩:=h;cases h;exact EM _ hg
 ·cases h
set_option maxHeartbeats 1000000 in
set_option maxRecDepth 100000 in
theorem N1(s:BA)(c:Int)(w:World):Calls Try.prog 157 #[.string s,.int .u8 c] w fun e w'=>e = .returned (.int .i64 (ti s c))∧w'=w:=by
 go_enter Try.func157,Try.ntmps157
 go_wp2
 rw[run_callFunc_extern Try.func159 (by kernel_rfl) (by kernel_rfl) (by kernel_rfl) (e:=Extern.BytealgIndexByte.indexByte) (by kernel_rfl),Lib.run_indexByteString]
 simp only[Result.andThen]
 rw[Oper.upon_value]
 go_wp2
 go_ret
 exact⟨rfl,rfl⟩
noncomputable def WL:Qt
 | [.d .str a0,.d (.i .u8) a1]=>some (true,[.d (.i .i64) (ti a0 a1)])
 |_=>none
noncomputable def SU:Gm.Spec:=Gm.Spec.of [.ro,.ro] [false] true WL
theorem N2:Gm.Good Try.prog (157,SU):=by
 refine⟨⟨Ai rfl ?_,_,Try.func157,by kernel_rfl,of_decide_eq_true (by kernel_rfl)⟩,Gm.Spec.aG _ _ _ _⟩
 intro ds outs h
 unfold WL at h
 split at h
 ·rename_i a0 a1
  cases h
  refine⟨_,_,.int .i64 (ti a0 a1),rfl,rfl,rfl,rfl,fun w us ROa Fs hA=> ?_⟩
  cases hA with
  |cons h1 hA=>
   cases hA with
   |cons h2 hA=>
    cases hA
    have e1:=nG (t:= .str) (v:= .string a0) rfl rfl h1
    have e2:=nG (t:= .i .u8) (v:= .int .u8 a1) rfl rfl h2
    subst e1 e2
    exact N1 a0 a1 w
 ·cases h
noncomputable def Jn:Code:=(Try.f150.body).getD .skip
def Qw:Nat→Kp:=fF [⟨[0,1],[],[],[]⟩,⟨[4],[],[],[]⟩]
noncomputable def Qx:Env:=bd.env [(157,SU)]
theorem Jo{R:Type}(n:Nat)(k:Kt R)(a0:BA)(a1:Int):aO Qx Qw n Jn [.ro,.ro] [false] true [.tmp 4] [3] [.d .str a0,.d (.i .u8) a1] k=
 (k [.d (.i .i64) (ti a0 a1)]):=by kernel_rfl
theorem EN(a0:BA)(a1:Int):∃keep rounds,∀{R:Type}(k:Kt R),aO Qx keep rounds Jn [.ro,.ro] [false] true [.tmp 4] [3] [.d .str a0,.d (.i .u8) a1] k=k [.d (.i .i64) (ti a0 a1)]:=⟨Qw,0,fun k=>Jo 0 k _ _⟩
noncomputable def WM:Qt
 | [.d .str a0,.d (.i .u8) a1]=>some (true,[.d (.i .i64) (ti a0 a1)])
 |_=>none
noncomputable def SV:Gm.Spec:=Gm.Spec.of [.ro,.ro] [false] true WM
theorem N3:Gm.Good Try.prog (150,SV):=by
 have hl:∀x∈[(157,SU)],Gm.Good Try.prog x:=aU.2 ⟨N2,gD⟩
 refine⟨⟨aM (aV.env hl) (bd.cz hl) Try.func150 (by kernel_rfl:Try.f150.body=some Jn) [3] (by kernel_rfl) ?_,_,Try.func150,by kernel_rfl,of_decide_eq_true (by kernel_rfl)⟩,Gm.Spec.aG _ _ _ _⟩
 intro ds outs h
 unfold WM at h
 split at h
 ·cases h;exact EN _ _
 ·cases h
noncomputable def iq(y0:BA)(y1:Int):St:=⟨[(0,.c (.one (.v (.string y0)))),(3,.c (.one (.v (.int .i64 y1))))],[],[]⟩
noncomputable def r5:St:=⟨[(2,.c (.one (.v (.bool false))))],[],[]⟩
noncomputable def Bc(y0:BA)(y1:Int)(y2:Bool):St:=⟨[(0,.c (.one (.v (.string y0)))),(3,.c (.one (.v (.int .i64 y1)))),(8,.c (.one (.v (.bool y2))))],[],[]⟩
noncomputable def r6:Code:=(Try.f125.body).getD .skip
def uF:Nat→Kp:=fF [⟨[0],[],[],[]⟩,⟨[0,3],[],[],[]⟩,⟨[0,3,8],[],[],[]⟩,⟨[0,3],[],[],[]⟩,⟨[0,3,4],[],[],[]⟩,⟨[0,3,45],[],[],[]⟩,⟨[2],[],[],[]⟩,⟨[2],[],[],[]⟩]
noncomputable def nS:Env:=bd.env [(54,Ez),(148,SP)]
noncomputable def fW{R:Type}(n:Nat)(x0:Option R)(x1:Int→Bool→Option R)(wA:BA):Nat→Int→Option R
  |0,_=>none
  |m+1,wB=>
    (cond (decide (wB<(ByteArray.size wA:Int)))
   (cond ((decide ((0:Int)≤wB))&&(decide (wB<(ByteArray.size wA:Int))))
    (cond (!(ie (((ByteArray.data wA).getD (Int.toNat wB) 0).toNat:Int)))
     (cond (wB==(0:Int))
      (x0)
      (cond (decide ((((ByteArray.data wA).getD (Int.toNat wB) 0).toNat:Int)≥(48:Int)))
       (cond (decide ((((ByteArray.data wA).getD (Int.toNat wB) 0).toNat:Int)≤(57:Int)))
        (fW n x0 x1 wA m (IntKind.wrap .i64 (wB+(1:Int))))
        (cond ((((ByteArray.data wA).getD (Int.toNat wB) 0).toNat:Int)==(95:Int))
         (fW n x0 x1 wA m (IntKind.wrap .i64 (wB+(1:Int))))
         (cond ((((ByteArray.data wA).getD (Int.toNat wB) 0).toNat:Int)==(46:Int))
          (fW n x0 x1 wA m (IntKind.wrap .i64 (wB+(1:Int))))
          (cond ((((ByteArray.data wA).getD (Int.toNat wB) 0).toNat:Int)==(47:Int))
           (fW n x0 x1 wA m (IntKind.wrap .i64 (wB+(1:Int))))
           (cond (!((((ByteArray.data wA).getD (Int.toNat wB) 0).toNat:Int)==(45:Int)))
            (x0)
            (fW n x0 x1 wA m (IntKind.wrap .i64 (wB+(1:Int)))))))))
       (cond ((((ByteArray.data wA).getD (Int.toNat wB) 0).toNat:Int)==(95:Int))
        (fW n x0 x1 wA m (IntKind.wrap .i64 (wB+(1:Int))))
        (cond ((((ByteArray.data wA).getD (Int.toNat wB) 0).toNat:Int)==(46:Int))
         (fW n x0 x1 wA m (IntKind.wrap .i64 (wB+(1:Int))))
         (cond ((((ByteArray.data wA).getD (Int.toNat wB) 0).toNat:Int)==(47:Int))
          (fW n x0 x1 wA m (IntKind.wrap .i64 (wB+(1:Int))))
          (cond (!((((ByteArray.data wA).getD (Int.toNat wB) 0).toNat:Int)==(45:Int)))
           (x0)
           (fW n x0 x1 wA m (IntKind.wrap .i64 (wB+(1:Int))))))))))
     (fW n x0 x1 wA m (IntKind.wrap .i64 (wB+(1:Int)))))
    none)
   (x1 wB (decide (wB<(ByteArray.size wA:Int)))))
theorem Jp{R:Type}(n:Nat)(k':Kx R)(wA:BA)(wB:Int):ev nS uF n (cM [1,0,1,0,0] r6) (iq wA wB) k'=
 (cond (decide (wB<(ByteArray.size wA:Int)))
 (cond ((decide ((0:Int)≤wB))&&(decide (wB<(ByteArray.size wA:Int))))
 (cond (!(ie (((ByteArray.data wA).getD (Int.toNat wB) 0).toNat:Int)))
 (cond (wB==(0:Int))
 (k' .ret r5)
 (cond (decide ((((ByteArray.data wA).getD (Int.toNat wB) 0).toNat:Int)≥(48:Int)))
 (cond (decide ((((ByteArray.data wA).getD (Int.toNat wB) 0).toNat:Int)≤(57:Int)))
 (k' .normal (iq wA (IntKind.wrap .i64 (wB+(1:Int)))))
 (cond ((((ByteArray.data wA).getD (Int.toNat wB) 0).toNat:Int)==(95:Int))
 (k' .normal (iq wA (IntKind.wrap .i64 (wB+(1:Int)))))
 (cond ((((ByteArray.data wA).getD (Int.toNat wB) 0).toNat:Int)==(46:Int))
 (k' .normal (iq wA (IntKind.wrap .i64 (wB+(1:Int)))))
 (cond ((((ByteArray.data wA).getD (Int.toNat wB) 0).toNat:Int)==(47:Int))
 (k' .normal (iq wA (IntKind.wrap .i64 (wB+(1:Int)))))
 (cond (!((((ByteArray.data wA).getD (Int.toNat wB) 0).toNat:Int)==(45:Int)))
 (k' .ret r5)
 (k' .normal (iq wA (IntKind.wrap .i64 (wB+(1:Int))))))))))
 (cond ((((ByteArray.data wA).getD (Int.toNat wB) 0).toNat:Int)==(95:Int))
 (k' .normal (iq wA (IntKind.wrap .i64 (wB+(1:Int)))))
 (cond ((((ByteArray.data wA).getD (Int.toNat wB) 0).toNat:Int)==(46:Int))
 (k' .normal (iq wA (IntKind.wrap .i64 (wB+(1:Int)))))
 (cond ((((ByteArray.data wA).getD (Int.toNat wB) 0).toNat:Int)==(47:Int))
 (k' .normal (iq wA (IntKind.wrap .i64 (wB+(1:Int)))))
 (cond (!((((ByteArray.data wA).getD (Int.toNat wB) 0).toNat:Int)==(45:Int)))
 (k' .ret r5)
 (k' .normal (iq wA (IntKind.wrap .i64 (wB+(1:Int)))))))))))
 (k' .normal (iq wA (IntKind.wrap .i64 (wB+(1:Int))))))
 none)
 (k' (.exit 0) (Bc wA wB (decide (wB<(ByteArray.size wA:Int)))))):=by kernel_rfl
theorem EO{R:Type}(n:Nat)(k':Kx R)(wA:BA):∀(m:Nat)(wB:Int),iter (fun st k=>ev nS uF n (cM [1,0,1,0,0] r6) st k) m (iq wA wB) k'=fW n (k' .ret r5) (fun(wE:Int)(wF:Bool)=>k' (.exit 0) (Bc wA wE wF)) wA m wB:=by
 intro m;induction m with
 |zero=>intros;rfl
 |succ m ih=>
  intro wB
  simp only[iter]
  rw[Jp]
  simp only[ih,fW]
noncomputable def Bd{R:Type}(n:Nat)(k':Kx R):Kx R:=(cL 0 (gd nS uF n (cM [1,1] r6) k'))
theorem EP{R:Type}(n:Nat)(k:Kt R)(a0:BA):Bd n (bt nS [.ro] [false] true [.tmp 2] [4] [.d .str a0] k) .ret r5=
 (k [.d .bool false]):=by kernel_rfl
theorem ER{R:Type}(n:Nat)(k:Kt R)(a0:BA)(wA:BA)(wE:Int)(wF:Bool):Bd n (bt nS [.ro] [false] true [.tmp 2] [4] [.d .str a0] k) (.exit 0) (Bc wA wE wF)=
 (cond (du (ByteArray.size wA:Int) (1:Int) (60:Int))
 (cond (!(fX wA (bs [110,117,108,108])))
 (cond (!(fX wA (bs [116,114,117,101])))
 (k [.d .bool (!(fX wA (bs [102,97,108,115,101])))])
 (k [.d .bool false]))
 (k [.d .bool false]))
 (k [.d .bool false])):=by kernel_rfl
theorem Jq{R:Type}(n:Nat)(k:Kt R)(a0:BA):aO nS uF n r6 [.ro] [false] true [.tmp 2] [4] [.d .str a0] k=
 (fW n (k [.d .bool false]) (fun(wE:Int)(wF:Bool)=>
 (cond (du (ByteArray.size a0:Int) (1:Int) (60:Int))
 (cond (!(fX a0 (bs [110,117,108,108])))
 (cond (!(fX a0 (bs [116,114,117,101])))
 (k [.d .bool (!(fX a0 (bs [102,97,108,115,101])))])
 (k [.d .bool false]))
 (k [.d .bool false]))
 (k [.d .bool false]))) a0 n (0:Int)):=by
 refine Eq.trans (b:=(iter (fun st k=>ev nS uF n (cM [1,0,1,0,0] r6) st k) n (iq a0 (0:Int)) (Bd n (bt nS [.ro] [false] true [.tmp 2] [4] [.d .str a0] k)))) (by kernel_rfl) ?_
 simp only[EO,EP,ER]
theorem ES(a0:BA)(hg:eD a0=true):∃keep rounds,∀{R:Type}(k:Kt R),aO nS keep rounds r6 [.ro] [false] true [.tmp 2] [4] [.d .str a0] k=k [.d .bool (fi a0)]:=by
 have hl:a0.size≤9223372036854775807:=gT hg
 refine⟨uF,a0.size+1,fun k=> ?_⟩
 rw[Jq]
 refine Eq.trans (eW (n:=a0.size) (F:=fun m i=>fW (a0.size+1) _ _ a0 m i) (p:=fun j=>kN (j:Int) (eL a0 j)) (good:=_) (bad:=k [.d .bool false])
  (fun m j hj=> ?_) (fun m=>by simp only[fW,kn,cond_false];rfl) a0.size 0 (a0.size+1) (by omega) (by omega)) ?_
 ·obtain⟨h1,h0,hw,ht⟩:=idx hj (by omega)
  simp only[fW,h1,h0,hw,ht,Bool.and_self,cond_true]
  show _=cond (kN (j:Int) (((ByteArray.data a0).getD j 0).toNat:Int)) _ _
  generalize (((ByteArray.data a0).getD j 0).toNat:Int)=c
  unfold kN digit
  cases ie c
  ·cases ((j:Int)==(0:Int))
   ·cases decide (c≥(48:Int))<;>cases decide (c≤(57:Int))<;>cases (c==(95:Int))<;>cases (c==(46:Int))<;>cases (c==(47:Int))<;>cases (c==(45:Int))<;>rfl
   ·rfl
  ·rfl
 ·unfold fi
  cases ic (fun j=>kN (j:Int) (eL a0 j)) 0 a0.size<;>cases du (a0.size:Int) 1 60<;>cases fX a0 (bs [110,117,108,108])<;>cases fX a0 (bs [116,114,117,101])<;>rfl
noncomputable def WN:Qt
 | [.d .str a0]=>some ((eD a0),[.d .bool (fi a0)])
 |_=>none
noncomputable def SW:Gm.Spec:=Gm.Spec.of [.ro] [false] true WN
theorem N4:Gm.Good Try.prog (125,SW):=by
 have hl:∀x∈[(54,Ez),(148,SP)],Gm.Good Try.prog x:=aU.2 ⟨oN,aU.2 ⟨NT,gD⟩⟩
 refine⟨⟨aM (aV.env hl) (bd.cz hl) Try.func125 (by kernel_rfl:Try.f125.body=some r6) [4] (by kernel_rfl) ?_,_,Try.func125,by kernel_rfl,of_decide_eq_true (by kernel_rfl)⟩,Gm.Spec.aG _ _ _ _⟩
 intro ds outs h
 unfold WN at h
 split at h
 ·simp only[Option.some.injEq,Prod.mk.injEq] at h;obtain⟨hg,h⟩:=h;cases h;exact ES _ hg
 ·cases h
noncomputable def oO(y0:BA)(y1:Int)(y2:Int):St:=⟨[(0,.c (.one (.v (.string y0)))),(5,.c (.one (.v (.int .i64 y1)))),(6,.c (.one (.v (.int .i64 y2))))],[],[]⟩
noncomputable def vY:St:=⟨[(2,.c (.one (.v (.bool false))))],[],[]⟩
noncomputable def Be(y0:BA)(y1:Int)(y2:Int)(y3:Bool):St:=⟨[(0,.c (.one (.v (.string y0)))),(5,.c (.one (.v (.int .i64 y1)))),(6,.c (.one (.v (.int .i64 y2)))),(7,.c (.one (.v (.bool y3))))],[],[]⟩
noncomputable def r7:Code:=(Try.f130.body).getD .skip
def uG:Nat→Kp:=fF [⟨[0],[],[],[]⟩,⟨[0,5,6],[],[],[]⟩,⟨[0,5,6,7],[],[],[]⟩,⟨[0,3,5,6],[],[],[]⟩,⟨[0,5,6,31],[],[],[]⟩,⟨[2],[],[],[]⟩,⟨[0,5,6],[],[],[]⟩,⟨[2],[],[],[]⟩]
noncomputable def nT:Env:=bd.env [(56,tp),(128,IZ),(149,SQ),(150,SV)]
noncomputable def kP{R:Type}(n:Nat)(x0:Option R)(x1:Int→Bool→Option R)(wA:BA)(wD:Int):Nat→Int→Option R
  |0,_=>none
  |m+1,wC=>
    (cond (decide (wC<wD))
   (cond ((decide ((0:Int)≤wC))&&(decide (wC<(ByteArray.size wA:Int))))
    (cond (!(ie (((ByteArray.data wA).getD (Int.toNat wC) 0).toNat:Int)))
     (cond (wC==(0:Int))
      (x0)
      (cond ((decide ((0:Int)≤wC))&&(decide (wC<(ByteArray.size wA:Int))))
       (cond (!(digit (((ByteArray.data wA).getD (Int.toNat wC) 0).toNat:Int)))
        (cond ((decide ((0:Int)≤wC))&&(decide (wC<(ByteArray.size wA:Int))))
         (cond (decide ((ti (bs [95,46,47,45]) (((ByteArray.data wA).getD (Int.toNat wC) 0).toNat:Int))<(0:Int)))
          (x0)
          (kP n x0 x1 wA wD m (IntKind.wrap .i64 (wC+(1:Int)))))
         none)
        (kP n x0 x1 wA wD m (IntKind.wrap .i64 (wC+(1:Int)))))
       none))
     (kP n x0 x1 wA wD m (IntKind.wrap .i64 (wC+(1:Int)))))
    none)
   (x1 wC (decide (wC<wD))))
theorem Jr{R:Type}(n:Nat)(k':Kx R)(wA:BA)(wD:Int)(wC:Int):ev nT uG n (cM [1,0,1,0,0] r7) (oO wA wD wC) k'=
 (cond (decide (wC<wD))
 (cond ((decide ((0:Int)≤wC))&&(decide (wC<(ByteArray.size wA:Int))))
 (cond (!(ie (((ByteArray.data wA).getD (Int.toNat wC) 0).toNat:Int)))
 (cond (wC==(0:Int))
 (k' .ret vY)
 (cond ((decide ((0:Int)≤wC))&&(decide (wC<(ByteArray.size wA:Int))))
 (cond (!(digit (((ByteArray.data wA).getD (Int.toNat wC) 0).toNat:Int)))
 (cond ((decide ((0:Int)≤wC))&&(decide (wC<(ByteArray.size wA:Int))))
 (cond (decide ((ti (bs [95,46,47,45]) (((ByteArray.data wA).getD (Int.toNat wC) 0).toNat:Int))<(0:Int)))
 (k' .ret vY)
 (k' .normal (oO wA wD (IntKind.wrap .i64 (wC+(1:Int))))))
 none)
 (k' .normal (oO wA wD (IntKind.wrap .i64 (wC+(1:Int))))))
 none))
 (k' .normal (oO wA wD (IntKind.wrap .i64 (wC+(1:Int))))))
 none)
 (k' (.exit 0) (Be wA wD wC (decide (wC<wD))))):=by kernel_rfl
theorem ET{R:Type}(n:Nat)(k':Kx R)(wA:BA)(wD:Int):∀(m:Nat)(wC:Int),iter (fun st k=>ev nT uG n (cM [1,0,1,0,0] r7) st k) m (oO wA wD wC) k'=kP n (k' .ret vY) (fun(wG:Int)(wH:Bool)=>k' (.exit 0) (Be wA wD wG wH)) wA wD m wC:=by
 intro m;induction m with
 |zero=>intros;rfl
 |succ m ih=>
  intro wC
  simp only[iter]
  rw[Jr]
  simp only[ih,kP]
noncomputable def Bf{R:Type}(n:Nat)(k':Kx R):Kx R:=(cL 0 (gd nT uG n (cM [1,1] r7) k'))
theorem EU{R:Type}(n:Nat)(k:Kt R)(a0:BA):Bf n (bt nT [.ro] [false] true [.tmp 2] [4] [.d .str a0] k) .ret vY=
 (k [.d .bool false]):=by kernel_rfl
theorem EV{R:Type}(n:Nat)(k:Kt R)(a0:BA)(wA:BA)(wD:Int)(wG:Int)(wH:Bool):Bf n (bt nT [.ro] [false] true [.tmp 2] [4] [.d .str a0] k) (.exit 0) (Be wA wD wG wH)=
 (cond (du (ByteArray.size wA:Int) (1:Int) (60:Int))
 (cond (!(fX wA (bs [110,117,108,108])))
 (cond (!(fX wA (bs [116,114,117,101])))
 (k [.d .bool (!(fX wA (bs [102,97,108,115,101])))])
 (k [.d .bool false]))
 (k [.d .bool false]))
 (k [.d .bool false])):=by kernel_rfl
theorem Js{R:Type}(n:Nat)(k:Kt R)(a0:BA):aO nT uG n r7 [.ro] [false] true [.tmp 2] [4] [.d .str a0] k=
 (kP n (k [.d .bool false]) (fun(wG:Int)(wH:Bool)=>
 (cond (du (ByteArray.size a0:Int) (1:Int) (60:Int))
 (cond (!(fX a0 (bs [110,117,108,108])))
 (cond (!(fX a0 (bs [116,114,117,101])))
 (k [.d .bool (!(fX a0 (bs [102,97,108,115,101])))])
 (k [.d .bool false]))
 (k [.d .bool false]))
 (k [.d .bool false]))) a0 (ByteArray.size a0:Int) n (0:Int)):=by
 refine Eq.trans (b:=(iter (fun st k=>ev nT uG n (cM [1,0,1,0,0] r7) st k) n (oO a0 (ByteArray.size a0:Int) (0:Int)) (Bf n (bt nT [.ro] [false] true [.tmp 2] [4] [.d .str a0] k)))) (by kernel_rfl) ?_
 simp only[ET,EU,EV]
theorem EW(a0:BA)(hg:eD a0=true):∃keep rounds,∀{R:Type}(k:Kt R),aO nT keep rounds r7 [.ro] [false] true [.tmp 2] [4] [.d .str a0] k=k [.d .bool (fi a0)]:=by
 have hl:a0.size≤9223372036854775807:=gT hg
 refine⟨uG,a0.size+1,fun k=> ?_⟩
 rw[Js]
 refine Eq.trans (eW (n:=a0.size) (F:=fun m i=>kP (a0.size+1) _ _ a0 (a0.size:Int) m i) (p:=fun j=>kN (j:Int) (eL a0 j)) (good:=_) (bad:=k [.d .bool false])
  (fun m j hj=> ?_) (fun m=>by simp only[kP,kn,cond_false];rfl) a0.size 0 (a0.size+1) (by omega) (by omega)) ?_
 ·obtain⟨h1,h0,hw,ht⟩:=idx hj (by omega)
  simp only[kP,h1,h0,hw,ht,Bool.and_self,cond_true,ZG (UInt8.toNat_lt _)]
  show _=cond (kN (j:Int) (((ByteArray.data a0).getD j 0).toNat:Int)) _ _
  generalize (((ByteArray.data a0).getD j 0).toNat:Int)=c
  unfold kN
  cases ie c
  ·cases ((j:Int)==(0:Int))
   ·cases digit c<;>cases (c==(95:Int))<;>cases (c==(46:Int))<;>cases (c==(47:Int))<;>cases (c==(45:Int))<;>rfl
   ·rfl
  ·rfl
 ·unfold fi
  cases ic (fun j=>kN (j:Int) (eL a0 j)) 0 a0.size<;>cases du (a0.size:Int) 1 60<;>cases fX a0 (bs [110,117,108,108])<;>cases fX a0 (bs [116,114,117,101])<;>rfl
noncomputable def WO:Qt
 | [.d .str a0]=>some ((eD a0),[.d .bool (fi a0)])
 |_=>none
noncomputable def SX:Gm.Spec:=Gm.Spec.of [.ro] [false] true WO
theorem N5:Gm.Good Try.prog (130,SX):=by
 have hl:∀x∈[(56,tp),(128,IZ),(149,SQ),(150,SV)],Gm.Good Try.prog x:=aU.2 ⟨jY,aU.2 ⟨CS,aU.2 ⟨NU,aU.2 ⟨N3,gD⟩⟩⟩⟩
 refine⟨⟨aM (aV.env hl) (bd.cz hl) Try.func130 (by kernel_rfl:Try.f130.body=some r7) [4] (by kernel_rfl) ?_,_,Try.func130,by kernel_rfl,of_decide_eq_true (by kernel_rfl)⟩,Gm.Spec.aG _ _ _ _⟩
 intro ds outs h
 unfold WO at h
 split at h
 ·simp only[Option.some.injEq,Prod.mk.injEq] at h;obtain⟨hg,h⟩:=h;cases h;exact EW _ hg
 ·cases h
noncomputable def Jt:Code:=(Try.f151.body).getD .skip
def Qy:Nat→Kp:=fF [⟨[0,1],[],[],[]⟩,⟨[4],[],[],[]⟩]
noncomputable def Qz:Env:=bd.env []
theorem Ju{R:Type}(n:Nat)(k:Kt R)(a0:BA)(a1:BA):aO Qz Qy n Jt [.ro,.ro] [false] true [.tmp 4] [4] [.d .str a0,.d .str a1] k=
 (cond (decide ((ByteArray.size a0:Int)≥(ByteArray.size a1:Int)))
 (cond ((decide ((0:Int)≤(ByteArray.size a1:Int)))&&(decide ((ByteArray.size a1:Int)≤(ByteArray.size a0:Int))))
 (k [.d .bool (fX (ByteArray.extract a0 0 (Int.toNat (ByteArray.size a1:Int))) a1)])
 none)
 (k [.d .bool false])):=by kernel_rfl
theorem EX(a0:BA)(a1:BA):∃keep rounds,∀{R:Type}(k:Kt R),aO Qz keep rounds Jt [.ro,.ro] [false] true [.tmp 4] [4] [.d .str a0,.d .str a1] k=k [.d .bool (gp a0 a1)]:=by
 refine⟨Qy,0,fun k=> ?_⟩
 rw[Ju];unfold gp
 rw[Int.toNat_natCast]
 by_cases h:(a0.size:Int)≥(a1.size:Int)
 ·have h2:decide ((a1.size:Int)≤(a0.size:Int))=true:=decide_eq_true h
  have h3:decide ((0:Int)≤(a1.size:Int))=true:=decide_eq_true (by omega)
  simp only[h,h2,h3,decide_true,cond_true,Bool.and_self,Bool.true_and]
 ·simp only[h,decide_false,cond_false,Bool.false_and]
noncomputable def WQ:Qt
 | [.d .str a0,.d .str a1]=>some (true,[.d .bool (gp a0 a1)])
 |_=>none
noncomputable def SY:Gm.Spec:=Gm.Spec.of [.ro,.ro] [false] true WQ
theorem N6:Gm.Good Try.prog (151,SY):=by
 have hl:∀x∈([]:List (Nat×Gm.Spec)),Gm.Good Try.prog x:=fun _ h=>by cases h
 refine⟨⟨aM (aV.env hl) (bd.cz hl) Try.func151 (by kernel_rfl:Try.f151.body=some Jt) [4] (by kernel_rfl) ?_,_,Try.func151,by kernel_rfl,of_decide_eq_true (by kernel_rfl)⟩,Gm.Spec.aG _ _ _ _⟩
 intro ds outs h
 unfold WQ at h
 split at h
 ·cases h;exact EX _ _
 ·cases h
noncomputable def Jv:Code:=(Try.f131.body).getD .skip
def QA:Nat→Kp:=fF [⟨[0,1],[],[],[]⟩,⟨[4],[],[],[]⟩]
noncomputable def QB:Env:=bd.env [(151,SY)]
theorem Jw{R:Type}(n:Nat)(k:Kt R)(a0:BA)(a1:BA):aO QB QA n Jv [.ro,.ro] [false] true [.tmp 4] [4] [.d .str a0,.d .str a1] k=
 (k [.d .bool (gp a0 a1)]):=by kernel_rfl
theorem EY(a0:BA)(a1:BA):∃keep rounds,∀{R:Type}(k:Kt R),aO QB keep rounds Jv [.ro,.ro] [false] true [.tmp 4] [4] [.d .str a0,.d .str a1] k=k [.d .bool (gp a0 a1)]:=by
 exact⟨QA,0,fun k=>Jw 0 k a0 a1⟩
noncomputable def WR:Qt
 | [.d .str a0,.d .str a1]=>some (true,[.d .bool (gp a0 a1)])
 |_=>none
noncomputable def SZ:Gm.Spec:=Gm.Spec.of [.ro,.ro] [false] true WR
theorem N7:Gm.Good Try.prog (131,SZ):=by
 have hl:∀x∈[(151,SY)],Gm.Good Try.prog x:=aU.2 ⟨N6,gD⟩
 refine⟨⟨aM (aV.env hl) (bd.cz hl) Try.func131 (by kernel_rfl:Try.f131.body=some Jv) [4] (by kernel_rfl) ?_,_,Try.func131,by kernel_rfl,of_decide_eq_true (by kernel_rfl)⟩,Gm.Spec.aG _ _ _ _⟩
 intro ds outs h
 unfold WR at h
 split at h
 ·cases h;exact EY _ _
 ·cases h
noncomputable def Jx:Code:=(Try.f126.body).getD .skip
def QC:Nat→Kp:=fF [⟨[0],[],[],[]⟩,⟨[2],[],[],[]⟩]
noncomputable def QD:Env:=bd.env []
theorem Jy{R:Type}(n:Nat)(k:Kt R)(a0:BA):aO QD QC n Jx [.ro] [false] true [.tmp 2] [4] [.d .str a0] k=
 (cond (decide ((ByteArray.size a0:Int)≥(5:Int)))
 (cond (decide ((5:Int)≤(ByteArray.size a0:Int)))
 (k [.d .bool (fX (ByteArray.extract a0 0 5) (bs [113,117,97,121,47]))])
 none)
 (k [.d .bool false])):=by kernel_rfl
theorem EZ(a0:BA):∃keep rounds,∀{R:Type}(k:Kt R),aO QD keep rounds Jx [.ro] [false] true [.tmp 2] [4] [.d .str a0] k=k [.d .bool (ours a0)]:=by
 refine⟨QC,0,fun k=> ?_⟩
 rw[Jy];unfold ours gp
 show _=k [.d .bool (decide ((a0.size:Int)≥(5:Int))&&fX (a0.extract 0 5) (bs [113,117,97,121,47]))]
 by_cases h:(a0.size:Int)≥(5:Int)
 ·have h2:decide ((5:Int)≤(a0.size:Int))=true:=decide_eq_true h
  simp only[h,h2,decide_true,cond_true,Bool.true_and]
 ·simp only[h,decide_false,cond_false,Bool.false_and]
noncomputable def WS:Qt
 | [.d .str a0]=>some (true,[.d .bool (ours a0)])
 |_=>none
noncomputable def S0:Gm.Spec:=Gm.Spec.of [.ro] [false] true WS
theorem N8:Gm.Good Try.prog (126,S0):=by
 have hl:∀x∈([]:List (Nat×Gm.Spec)),Gm.Good Try.prog x:=fun _ h=>by cases h
 refine⟨⟨aM (aV.env hl) (bd.cz hl) Try.func126 (by kernel_rfl:Try.f126.body=some Jx) [4] (by kernel_rfl) ?_,_,Try.func126,by kernel_rfl,of_decide_eq_true (by kernel_rfl)⟩,Gm.Spec.aG _ _ _ _⟩
 intro ds outs h
 unfold WS at h
 split at h
 ·cases h;exact EZ _
 ·cases h
noncomputable def Jz:Code:=(Try.f129.body).getD .skip
def QE:Nat→Kp:=fF [⟨[0],[],[],[]⟩,⟨[2],[],[],[]⟩]
noncomputable def QF:Env:=bd.env [(56,tp)]
theorem JA{R:Type}(n:Nat)(k:Kt R)(a0:Int):aO QF QE n Jz [.ro] [false] true [.tmp 2] [4] [.d (.i .i64) a0] k=
 (k [.d .bool (du a0 (0:Int) (1000:Int))]):=by kernel_rfl
theorem E0(a0:Int):∃keep rounds,∀{R:Type}(k:Kt R),aO QF keep rounds Jz [.ro] [false] true [.tmp 2] [4] [.d (.i .i64) a0] k=k [.d .bool (oH a0)]:=by
 exact⟨QE,0,fun k=>JA 0 k a0⟩
noncomputable def WT:Qt
 | [.d (.i .i64) a0]=>some (true,[.d .bool (oH a0)])
 |_=>none
noncomputable def S1:Gm.Spec:=Gm.Spec.of [.ro] [false] true WT
theorem N9:Gm.Good Try.prog (129,S1):=by
 have hl:∀x∈[(56,tp)],Gm.Good Try.prog x:=aU.2 ⟨jY,gD⟩
 refine⟨⟨aM (aV.env hl) (bd.cz hl) Try.func129 (by kernel_rfl:Try.f129.body=some Jz) [4] (by kernel_rfl) ?_,_,Try.func129,by kernel_rfl,of_decide_eq_true (by kernel_rfl)⟩,Gm.Spec.aG _ _ _ _⟩
 intro ds outs h
 unfold WT at h
 split at h
 ·cases h;exact E0 _
 ·cases h
noncomputable def S2:Code:=(Try.f93.body).getD .skip
def WU:Nat→Kp:=fF [⟨[1],[],[],[]⟩,⟨[2],[],[],[]⟩]
noncomputable def WV:Env:=bd.env [(54,Ez)]
theorem N'{R:Type}(n:Nat)(k:Kt R)(a0:aB):aO WV WU n S2 [.ro] [false] true [.tmp 2] [4] [.d .aD a0] k=
 (cond (du (aB.up a0) (0:Int) (1000:Int))
 (cond (du (aB.down a0) (0:Int) (1000:Int))
 (cond (du (aB.bU a0) (0:Int) (3600:Int))
 (k [.d .bool (du (aB.bm a0) (0:Int) (3600:Int))])
 (k [.d .bool false]))
 (k [.d .bool false]))
 (k [.d .bool false])):=by kernel_rfl
theorem JB(a0:aB):∃keep rounds,∀{R:Type}(k:Kt R),aO WV keep rounds S2 [.ro] [false] true [.tmp 2] [4] [.d .aD a0] k=k [.d .bool (ik a0)]:=by
  refine⟨WU,0,fun k=> ?_⟩
  rw[N'];unfold ik
  try simp only[oH]
  cases du a0.up 0 1000<;>cases du a0.down 0 1000<;>cases du a0.bU 0 3600<;>rfl
noncomputable def q93:Qt
 | [.d .aD a0]=>some (true,[.d .bool (ik a0)])
 |_=>none
noncomputable def Z2:Gm.Spec:=Gm.Spec.of [.ro] [false] true q93
theorem S3:Gm.Good Try.prog (93,Z2):=by
 have hl:∀x∈[(54,Ez)],Gm.Good Try.prog x:=aU.2 ⟨oN,gD⟩
 refine⟨⟨aM (aV.env hl) (bd.cz hl) Try.func93 (by kernel_rfl:Try.f93.body=some S2) [4] (by kernel_rfl) ?_,_,Try.func93,by kernel_rfl,of_decide_eq_true (by kernel_rfl)⟩,Gm.Spec.aG _ _ _ _⟩
 intro ds outs h
 unfold q93 at h
 split at h
 ·cases h;exact JB _
 ·cases h
noncomputable def S4:Code:=(Try.f97.body).getD .skip
def WW:Nat→Kp:=fF [⟨[1],[],[],[]⟩,⟨[2],[],[],[]⟩]
noncomputable def WX:Env:=bd.env [(56,tp),(129,S1)]
theorem Oa{R:Type}(n:Nat)(k:Kt R)(a0:aB):aO WX WW n S4 [.ro] [false] true [.tmp 2] [4] [.d .aD a0] k=
 (cond (oH (aB.up a0))
 (cond (oH (aB.down a0))
 (cond (du (aB.bU a0) (0:Int) (3600:Int))
 (k [.d .bool (du (aB.bm a0) (0:Int) (3600:Int))])
 (k [.d .bool false]))
 (k [.d .bool false]))
 (k [.d .bool false])):=by kernel_rfl
theorem JC(a0:aB):∃keep rounds,∀{R:Type}(k:Kt R),aO WX keep rounds S4 [.ro] [false] true [.tmp 2] [4] [.d .aD a0] k=k [.d .bool (ik a0)]:=by
  refine⟨WW,0,fun k=> ?_⟩
  rw[Oa];unfold ik
  try simp only[oH]
  cases du a0.up 0 1000<;>cases du a0.down 0 1000<;>cases du a0.bU 0 3600<;>rfl
noncomputable def q97:Qt
 | [.d .aD a0]=>some (true,[.d .bool (ik a0)])
 |_=>none
noncomputable def Z3:Gm.Spec:=Gm.Spec.of [.ro] [false] true q97
theorem S5:Gm.Good Try.prog (97,Z3):=by
 have hl:∀x∈[(56,tp),(129,S1)],Gm.Good Try.prog x:=aU.2 ⟨jY,aU.2 ⟨N9,gD⟩⟩
 refine⟨⟨aM (aV.env hl) (bd.cz hl) Try.func97 (by kernel_rfl:Try.f97.body=some S4) [4] (by kernel_rfl) ?_,_,Try.func97,by kernel_rfl,of_decide_eq_true (by kernel_rfl)⟩,Gm.Spec.aG _ _ _ _⟩
 intro ds outs h
 unfold q97 at h
 split at h
 ·cases h;exact JC _
 ·cases h
noncomputable def JD:Code:=(Try.f124.body).getD .skip
def QG:Nat→Kp:=fF [⟨[1],[],[],[]⟩,⟨[2],[],[],[]⟩]
noncomputable def QH:Env:=bd.env [(54,Ez),(91,WH)]
theorem JE{R:Type}(n:Nat)(k:Kt R)(a0:aj):aO QH QG n JD [.ro] [false] true [.tmp 2] [4] [.d .aw a0] k=
 (cond (eD (aj.name a0))
 (cond (dK (aj.name a0))
 (cond (du (aj.kind a0) (1:Int) (3:Int))
 (k [.d .bool (du (aj.goal a0) (1:Int) (1000000:Int))])
 (k [.d .bool false]))
 (k [.d .bool false]))
 none):=by kernel_rfl
theorem E1(a0:aj)(hg:aY a0=true):∃keep rounds,∀{R:Type}(k:Kt R),aO QH keep rounds JD [.ro] [false] true [.tmp 2] [4] [.d .aw a0] k=k [.d .bool (ei a0)]:=by
 simp only[aY,Bool.and_eq_true] at hg
 refine⟨QG,0,fun k=> ?_⟩
 rw[JE,gf hg.1];unfold ei
 cases dK a0.name<;>cases du a0.kind 1 3<;>rfl
noncomputable def WY:Qt
 | [.d .aw a0]=>some ((aY a0),[.d .bool (ei a0)])
 |_=>none
noncomputable def S6:Gm.Spec:=Gm.Spec.of [.ro] [false] true WY
theorem Ob:Gm.Good Try.prog (124,S6):=by
 have hl:∀x∈[(54,Ez),(91,WH)],Gm.Good Try.prog x:=aU.2 ⟨oN,aU.2 ⟨Jb,gD⟩⟩
 refine⟨⟨aM (aV.env hl) (bd.cz hl) Try.func124 (by kernel_rfl:Try.f124.body=some JD) [4] (by kernel_rfl) ?_,_,Try.func124,by kernel_rfl,of_decide_eq_true (by kernel_rfl)⟩,Gm.Spec.aG _ _ _ _⟩
 intro ds outs h
 unfold WY at h
 split at h
 ·simp only[Option.some.injEq,Prod.mk.injEq] at h;obtain⟨hg,h⟩:=h;cases h;exact E1 _ hg
 ·cases h
noncomputable def S7:Code:=(Try.f95.body).getD .skip
def WZ:Nat→Kp:=fF [⟨[1],[],[],[]⟩,⟨[2],[],[],[]⟩]
noncomputable def W3:Env:=bd.env [(56,tp),(96,WI)]
theorem Oc{R:Type}(n:Nat)(k:Kt R)(a0:aj):aO W3 WZ n S7 [.ro] [false] true [.tmp 2] [4] [.d .aw a0] k=
 (cond (eD (aj.name a0))
 (cond (dK (aj.name a0))
 (cond (du (aj.kind a0) (1:Int) (3:Int))
 (k [.d .bool (du (aj.goal a0) (1:Int) (1000000:Int))])
 (k [.d .bool false]))
 (k [.d .bool false]))
 none):=by kernel_rfl
theorem JF(a0:aj)(hg:aY a0=true):∃keep rounds,∀{R:Type}(k:Kt R),aO W3 keep rounds S7 [.ro] [false] true [.tmp 2] [4] [.d .aw a0] k=k [.d .bool (ei a0)]:=by
 simp only[aY,Bool.and_eq_true] at hg
 refine⟨WZ,0,fun k=> ?_⟩
 rw[Oc,gf hg.1];unfold ei
 cases dK a0.name<;>cases du a0.kind 1 3<;>rfl
noncomputable def q95:Qt
 | [.d .aw a0]=>some ((aY a0),[.d .bool (ei a0)])
 |_=>none
noncomputable def Z4:Gm.Spec:=Gm.Spec.of [.ro] [false] true q95
theorem S8:Gm.Good Try.prog (95,Z4):=by
 have hl:∀x∈[(56,tp),(96,WI)],Gm.Good Try.prog x:=aU.2 ⟨jY,aU.2 ⟨Ji,gD⟩⟩
 refine⟨⟨aM (aV.env hl) (bd.cz hl) Try.func95 (by kernel_rfl:Try.f95.body=some S7) [4] (by kernel_rfl) ?_,_,Try.func95,by kernel_rfl,of_decide_eq_true (by kernel_rfl)⟩,Gm.Spec.aG _ _ _ _⟩
 intro ds outs h
 unfold q95 at h
 split at h
 ·simp only[Option.some.injEq,Prod.mk.injEq] at h;obtain⟨hg,h⟩:=h;cases h;exact JF _ hg
 ·cases h
noncomputable def yF(y0:List aF)(y1:Int):St:=⟨[(0,.c (.one (.ro .note y0))),(3,.c (.one (.v (.int .i64 y1))))],[],[]⟩
noncomputable def r8:St:=⟨[(2,.c (.one (.v (.bool false))))],[],[]⟩
noncomputable def JG(y0:List aF)(y1:Int)(y2:Bool):St:=⟨[(0,.c (.one (.ro .note y0))),(3,.c (.one (.v (.int .i64 y1)))),(7,.c (.one (.v (.bool y2))))],[],[]⟩
noncomputable def Bg:Code:=(Try.f94.body).getD .skip
def E2:Nat→Kp:=fF [⟨[0],[],[],[]⟩,⟨[0,3],[],[],[]⟩,⟨[0,3,7],[],[],[]⟩,⟨[0,3],[],[],[]⟩,⟨[0,3,60],[],[],[]⟩,⟨[2],[],[],[]⟩,⟨[2],[],[],[]⟩]
noncomputable def vZ:Env:=bd.env [(125,SW),(126,S0),(127,SR)]
noncomputable def pj{R:Type}(n:Nat)(x0:Option R)(x1:Int→Bool→Option R)(wA:List aF):Nat→Int→Option R
  |0,_=>none
  |m+1,wB=>
    (cond (decide (wB<(wA.length:Int)))
   (cond ((decide ((0:Int)≤wB))&&(decide (wB<(wA.length:Int))))
    (cond (eD (aF.key (ax (t:= .note) wA (Int.toNat wB))))
     (cond (!(fi (aF.key (ax (t:= .note) wA (Int.toNat wB)))))
      (x0)
      (cond ((decide ((0:Int)≤wB))&&(decide (wB<(wA.length:Int))))
       (cond (ours (aF.key (ax (t:= .note) wA (Int.toNat wB))))
        (x0)
        (cond ((decide ((0:Int)≤wB))&&(decide (wB<(wA.length:Int))))
         (cond (eD (aF.text (ax (t:= .note) wA (Int.toNat wB))))
          (cond (!(gn (aF.text (ax (t:= .note) wA (Int.toNat wB)))))
           (x0)
           (cond ((decide ((0:Int)≤wB))&&(decide (wB<(wA.length:Int))))
            (cond (decide ((ByteArray.size (aF.text (ax (t:= .note) wA (Int.toNat wB))):Int)>(40:Int)))
             (x0)
             (cond (decide (wB>(0:Int)))
              (cond ((decide ((0:Int)≤(IntKind.wrap .i64 (wB-(1:Int)))))&&(decide ((IntKind.wrap .i64 (wB-(1:Int)))<(wA.length:Int))))
               (cond ((decide ((0:Int)≤wB))&&(decide (wB<(wA.length:Int))))
                (cond (!(gS (aF.key (ax (t:= .note) wA (Int.toNat (IntKind.wrap .i64 (wB-(1:Int)))))) (aF.key (ax (t:= .note) wA (Int.toNat wB)))))
                 (x0)
                 (pj n x0 x1 wA m (IntKind.wrap .i64 (wB+(1:Int)))))
                none)
               none)
              (pj n x0 x1 wA m (IntKind.wrap .i64 (wB+(1:Int))))))
            none))
          none)
         none))
       none))
     none)
    none)
   (x1 wB (decide (wB<(wA.length:Int)))))
theorem Oe{R:Type}(n:Nat)(k':Kx R)(wA:List aF)(wB:Int):ev vZ E2 n (cM [1,0,1,0,0] Bg) (yF wA wB) k'=
 (cond (decide (wB<(wA.length:Int)))
 (cond ((decide ((0:Int)≤wB))&&(decide (wB<(wA.length:Int))))
 (cond (eD (aF.key (ax (t:= .note) wA (Int.toNat wB))))
 (cond (!(fi (aF.key (ax (t:= .note) wA (Int.toNat wB)))))
 (k' .ret r8)
 (cond ((decide ((0:Int)≤wB))&&(decide (wB<(wA.length:Int))))
 (cond (ours (aF.key (ax (t:= .note) wA (Int.toNat wB))))
 (k' .ret r8)
 (cond ((decide ((0:Int)≤wB))&&(decide (wB<(wA.length:Int))))
 (cond (eD (aF.text (ax (t:= .note) wA (Int.toNat wB))))
 (cond (!(gn (aF.text (ax (t:= .note) wA (Int.toNat wB)))))
 (k' .ret r8)
 (cond ((decide ((0:Int)≤wB))&&(decide (wB<(wA.length:Int))))
 (cond (decide ((ByteArray.size (aF.text (ax (t:= .note) wA (Int.toNat wB))):Int)>(40:Int)))
 (k' .ret r8)
 (cond (decide (wB>(0:Int)))
 (cond ((decide ((0:Int)≤(IntKind.wrap .i64 (wB-(1:Int)))))&&(decide ((IntKind.wrap .i64 (wB-(1:Int)))<(wA.length:Int))))
 (cond ((decide ((0:Int)≤wB))&&(decide (wB<(wA.length:Int))))
 (cond (!(gS (aF.key (ax (t:= .note) wA (Int.toNat (IntKind.wrap .i64 (wB-(1:Int)))))) (aF.key (ax (t:= .note) wA (Int.toNat wB)))))
 (k' .ret r8)
 (k' .normal (yF wA (IntKind.wrap .i64 (wB+(1:Int))))))
 none)
 none)
 (k' .normal (yF wA (IntKind.wrap .i64 (wB+(1:Int)))))))
 none))
 none)
 none))
 none))
 none)
 none)
 (k' (.exit 0) (JG wA wB (decide (wB<(wA.length:Int)))))):=by kernel_rfl
theorem JH{R:Type}(n:Nat)(k':Kx R)(wA:List aF):∀(m:Nat)(wB:Int),iter (fun st k=>ev vZ E2 n (cM [1,0,1,0,0] Bg) st k) m (yF wA wB) k'=pj n (k' .ret r8) (fun(wR:Int)(wL:Bool)=>k' (.exit 0) (JG wA wR wL)) wA m wB:=by
 intro m;induction m with
 |zero=>intros;rfl
 |succ m ih=>
  intro wB
  simp only[iter]
  rw[Oe]
  simp only[ih,pj]
noncomputable def JI{R:Type}(n:Nat)(k':Kx R):Kx R:=(cL 0 (gd vZ E2 n (cM [1,1] Bg) k'))
theorem JJ{R:Type}(n:Nat)(k:Kt R)(a0:List aF):JI n (bt vZ [.ro] [false] true [.tmp 2] [4] [.d (.sl .note) a0] k) .ret r8=
 (k [.d .bool false]):=by kernel_rfl
theorem JK{R:Type}(n:Nat)(k:Kt R)(a0:List aF)(wA:List aF)(wR:Int)(wL:Bool):JI n (bt vZ [.ro] [false] true [.tmp 2] [4] [.d (.sl .note) a0] k) (.exit 0) (JG wA wR wL)=
 (k [.d .bool (decide ((wA.length:Int)≤(4:Int)))]):=by kernel_rfl
theorem Og{R:Type}(n:Nat)(k:Kt R)(a0:List aF):aO vZ E2 n Bg [.ro] [false] true [.tmp 2] [4] [.d (.sl .note) a0] k=
 (pj n (k [.d .bool false]) (fun(wR:Int)(wL:Bool)=>
 (k [.d .bool (decide ((a0.length:Int)≤(4:Int)))])) a0 n (0:Int)):=by
 refine Eq.trans (b:=(iter (fun st k=>ev vZ E2 n (cM [1,0,1,0,0] Bg) st k) n (yF a0 (0:Int)) (JI n (bt vZ [.ro] [false] true [.tmp 2] [4] [.d (.sl .note) a0] k)))) (by kernel_rfl) ?_
 simp only[JH,JJ,JK]
theorem JL(a0:List aF)(hg:gC cD a0=true):∃keep rounds,∀{R:Type}(k:Kt R),aO vZ keep rounds Bg [.ro] [false] true [.tmp 2] [4] [.d (.sl .note) a0] k=k [.d .bool (gR a0)]:=by
 have hl:=dU hg
 refine⟨E2,a0.length+1,fun {R} k=> ?_⟩
 rw[Og]
 refine Eq.trans (eW (n:=a0.length) (F:=fun m i=>pj (a0.length+1) _ _ a0 m i) (p:=rL a0) (good:=k [.d .bool (decide ((a0.length:Int)≤(4:Int)))]) (bad:=k [.d .bool false])
  (fun m j hj=> ?_) (fun m=>by simp only[pj,kn,cond_false]) (a0.length) 0 (a0.length+1) (by omega) (by omega)) ?_
 ·obtain⟨h1,h0,hw,ht⟩:=idx hj (by omega)
  have hx:=mM (t:= .note) hg hj
  simp only[cD,Bool.and_eq_true] at hx
  simp only[pj,h1,h0,hw,ht,gf hx.1,gf hx.2,ours,Bool.and_self,cond_true]
  unfold rL
  by_cases hz:(j:Int)>0
  ·obtain⟨h2,h3,_,h5⟩:=idx (show j-1<a0.length by omega) (by omega)
   simp only[hz,decide_true,cond_true,Hw hj (by omega) (by omega),h2,h3,h5,Bool.and_self]
   cases fi (ax (t:= .note) a0 j).key<;>cases gp (ax (t:= .note) a0 j).key (bs [113,117,97,121,47])<;>cases gn (ax (t:= .note) a0 j).text<;>cases decide (((ax (t:= .note) a0 j).text.size:Int)>40)<;>cases gS (ax (t:= .note) a0 (j-1)).key (ax (t:= .note) a0 j).key<;>rfl
  ·simp only[hz,decide_false,cond_false]
   cases fi (ax (t:= .note) a0 j).key<;>cases gp (ax (t:= .note) a0 j).key (bs [113,117,97,121,47])<;>cases gn (ax (t:= .note) a0 j).text<;>cases decide (((ax (t:= .note) a0 j).text.size:Int)>40)<;>rfl
 ·unfold gR
  cases ic (rL a0) 0 a0.length<;>rfl
noncomputable def q94:Qt
 | [.d (.sl .note) a0]=>some ((gC cD a0),[.d .bool (gR a0)])
 |_=>none
noncomputable def Z5:Gm.Spec:=Gm.Spec.of [.ro] [false] true q94
theorem S9:Gm.Good Try.prog (94,Z5):=by
 have hl:∀x∈[(125,SW),(126,S0),(127,SR)],Gm.Good Try.prog x:=aU.2 ⟨N4,aU.2 ⟨N8,aU.2 ⟨NZ,gD⟩⟩⟩
 refine⟨⟨aM (aV.env hl) (bd.cz hl) Try.func94 (by kernel_rfl:Try.f94.body=some Bg) [4] (by kernel_rfl) ?_,_,Try.func94,by kernel_rfl,of_decide_eq_true (by kernel_rfl)⟩,Gm.Spec.aG _ _ _ _⟩
 intro ds outs h
 unfold q94 at h
 split at h
 ·simp only[Option.some.injEq,Prod.mk.injEq] at h;obtain⟨hg,h⟩:=h;cases h;exact JL _ hg
 ·cases h
noncomputable def yG(y0:List aF)(y1:List aF)(y2:Int)(y3:Int):St:=⟨[(0,.c (.one (.ro .note y0))),(5,.c (.one (.ro .note y1))),(6,.c (.one (.v (.int .i64 y2)))),(7,.c (.one (.v (.int .i64 y3))))],[],[]⟩
noncomputable def r9:St:=⟨[(2,.c (.one (.v (.bool false))))],[],[]⟩
noncomputable def JM(y0:List aF)(y1:List aF)(y2:Int)(y3:Int)(y4:Bool):St:=⟨[(0,.c (.one (.ro .note y0))),(5,.c (.one (.ro .note y1))),(6,.c (.one (.v (.int .i64 y2)))),(7,.c (.one (.v (.int .i64 y3)))),(8,.c (.one (.v (.bool y4))))],[],[]⟩
noncomputable def Bh:Code:=(Try.f98.body).getD .skip
def E3:Nat→Kp:=fF [⟨[0],[],[],[]⟩,⟨[0,5,6,7],[],[],[]⟩,⟨[0,5,6,7,8],[],[],[]⟩,⟨[0,3,4,5,6,7],[],[],[]⟩,⟨[0,5,6,7,47],[],[],[]⟩,⟨[2],[],[],[]⟩,⟨[0,5,6,7],[],[],[]⟩,⟨[2],[],[],[]⟩]
noncomputable def v7:Env:=bd.env [(130,SX),(131,SZ),(132,SS)]
noncomputable def pk{R:Type}(n:Nat)(x0:Option R)(x1:Int→Bool→Option R)(wA:List aF)(wF:List aF)(wD:Int):Nat→Int→Option R
  |0,_=>none
  |m+1,wC=>
    (cond (decide (wC<wD))
   (cond ((decide ((0:Int)≤wC))&&(decide (wC<(wF.length:Int))))
    (cond (eD (aF.key (ax (t:= .note) wF (Int.toNat wC))))
     (cond (!(fi (aF.key (ax (t:= .note) wF (Int.toNat wC)))))
      (x0)
      (cond (gp (aF.key (ax (t:= .note) wF (Int.toNat wC))) (bs [113,117,97,121,47]))
       (x0)
       (cond (eD (aF.text (ax (t:= .note) wF (Int.toNat wC))))
        (cond (!(gn (aF.text (ax (t:= .note) wF (Int.toNat wC)))))
         (x0)
         (cond (decide ((ByteArray.size (aF.text (ax (t:= .note) wF (Int.toNat wC))):Int)>(40:Int)))
          (x0)
          (cond (decide (wC>(0:Int)))
           (cond ((decide ((0:Int)≤(IntKind.wrap .i64 (wC-(1:Int)))))&&(decide ((IntKind.wrap .i64 (wC-(1:Int)))<(wA.length:Int))))
            (cond (!(gS (aF.key (ax (t:= .note) wA (Int.toNat (IntKind.wrap .i64 (wC-(1:Int)))))) (aF.key (ax (t:= .note) wF (Int.toNat wC)))))
             (x0)
             (pk n x0 x1 wA wF wD m (IntKind.wrap .i64 (wC+(1:Int)))))
            none)
           (pk n x0 x1 wA wF wD m (IntKind.wrap .i64 (wC+(1:Int)))))))
        none)))
     none)
    none)
   (x1 wC (decide (wC<wD))))
theorem Oh{R:Type}(n:Nat)(k':Kx R)(wA:List aF)(wF:List aF)(wD:Int)(wC:Int):ev v7 E3 n (cM [1,0,1,0,0] Bh) (yG wA wF wD wC) k'=
 (cond (decide (wC<wD))
 (cond ((decide ((0:Int)≤wC))&&(decide (wC<(wF.length:Int))))
 (cond (eD (aF.key (ax (t:= .note) wF (Int.toNat wC))))
 (cond (!(fi (aF.key (ax (t:= .note) wF (Int.toNat wC)))))
 (k' .ret r9)
 (cond (gp (aF.key (ax (t:= .note) wF (Int.toNat wC))) (bs [113,117,97,121,47]))
 (k' .ret r9)
 (cond (eD (aF.text (ax (t:= .note) wF (Int.toNat wC))))
 (cond (!(gn (aF.text (ax (t:= .note) wF (Int.toNat wC)))))
 (k' .ret r9)
 (cond (decide ((ByteArray.size (aF.text (ax (t:= .note) wF (Int.toNat wC))):Int)>(40:Int)))
 (k' .ret r9)
 (cond (decide (wC>(0:Int)))
 (cond ((decide ((0:Int)≤(IntKind.wrap .i64 (wC-(1:Int)))))&&(decide ((IntKind.wrap .i64 (wC-(1:Int)))<(wA.length:Int))))
 (cond (!(gS (aF.key (ax (t:= .note) wA (Int.toNat (IntKind.wrap .i64 (wC-(1:Int)))))) (aF.key (ax (t:= .note) wF (Int.toNat wC)))))
 (k' .ret r9)
 (k' .normal (yG wA wF wD (IntKind.wrap .i64 (wC+(1:Int))))))
 none)
 (k' .normal (yG wA wF wD (IntKind.wrap .i64 (wC+(1:Int))))))))
 none)))
 none)
 none)
 (k' (.exit 0) (JM wA wF wD wC (decide (wC<wD))))):=by kernel_rfl
theorem JN{R:Type}(n:Nat)(k':Kx R)(wA:List aF)(wF:List aF)(wD:Int):∀(m:Nat)(wC:Int),iter (fun st k=>ev v7 E3 n (cM [1,0,1,0,0] Bh) st k) m (yG wA wF wD wC) k'=pk n (k' .ret r9) (fun(wL:Int)(wS:Bool)=>k' (.exit 0) (JM wA wF wD wL wS)) wA wF wD m wC:=by
 intro m;induction m with
 |zero=>intros;rfl
 |succ m ih=>
  intro wC
  simp only[iter]
  rw[Oh]
  simp only[ih,pk]
noncomputable def JO{R:Type}(n:Nat)(k':Kx R):Kx R:=(cL 0 (gd v7 E3 n (cM [1,1] Bh) k'))
theorem JP{R:Type}(n:Nat)(k:Kt R)(a0:List aF):JO n (bt v7 [.ro] [false] true [.tmp 2] [4] [.d (.sl .note) a0] k) .ret r9=
 (k [.d .bool false]):=by kernel_rfl
theorem JQ{R:Type}(n:Nat)(k:Kt R)(a0:List aF)(wA:List aF)(wF:List aF)(wD:Int)(wL:Int)(wS:Bool):JO n (bt v7 [.ro] [false] true [.tmp 2] [4] [.d (.sl .note) a0] k) (.exit 0) (JM wA wF wD wL wS)=
 (k [.d .bool (decide ((wA.length:Int)≤(4:Int)))]):=by kernel_rfl
theorem Oi{R:Type}(n:Nat)(k:Kt R)(a0:List aF):aO v7 E3 n Bh [.ro] [false] true [.tmp 2] [4] [.d (.sl .note) a0] k=
 (pk n (k [.d .bool false]) (fun(wL:Int)(wS:Bool)=>
 (k [.d .bool (decide ((a0.length:Int)≤(4:Int)))])) a0 a0 (a0.length:Int) n (0:Int)):=by
 refine Eq.trans (b:=(iter (fun st k=>ev v7 E3 n (cM [1,0,1,0,0] Bh) st k) n (yG a0 a0 (a0.length:Int) (0:Int)) (JO n (bt v7 [.ro] [false] true [.tmp 2] [4] [.d (.sl .note) a0] k)))) (by kernel_rfl) ?_
 simp only[JN,JP,JQ]
theorem JR(a0:List aF)(hg:gC cD a0=true):∃keep rounds,∀{R:Type}(k:Kt R),aO v7 keep rounds Bh [.ro] [false] true [.tmp 2] [4] [.d (.sl .note) a0] k=k [.d .bool (gR a0)]:=by
 have hl:=dU hg
 refine⟨E3,a0.length+1,fun {R} k=> ?_⟩
 rw[Oi]
 refine Eq.trans (eW (n:=a0.length) (F:=fun m i=>pk (a0.length+1) _ _ a0 a0 (a0.length:Int) m i) (p:=rL a0) (good:=k [.d .bool (decide ((a0.length:Int)≤(4:Int)))]) (bad:=k [.d .bool false])
  (fun m j hj=> ?_) (fun m=>by simp only[pk,kn,cond_false]) (a0.length) 0 (a0.length+1) (by omega) (by omega)) ?_
 ·obtain⟨h1,h0,hw,ht⟩:=idx hj (by omega)
  have hx:=mM (t:= .note) hg hj
  simp only[cD,Bool.and_eq_true] at hx
  simp only[pk,h1,h0,hw,ht,gf hx.1,gf hx.2,Bool.and_self,cond_true]
  unfold rL
  by_cases hz:(j:Int)>0
  ·obtain⟨h2,h3,_,h5⟩:=idx (show j-1<a0.length by omega) (by omega)
   simp only[hz,decide_true,cond_true,Hw hj (by omega) (by omega),h2,h3,h5,Bool.and_self]
   cases fi (ax (t:= .note) a0 j).key<;>cases gp (ax (t:= .note) a0 j).key (bs [113,117,97,121,47])<;>cases gn (ax (t:= .note) a0 j).text<;>cases decide (((ax (t:= .note) a0 j).text.size:Int)>40)<;>cases gS (ax (t:= .note) a0 (j-1)).key (ax (t:= .note) a0 j).key<;>rfl
  ·simp only[hz,decide_false,cond_false]
   cases fi (ax (t:= .note) a0 j).key<;>cases gp (ax (t:= .note) a0 j).key (bs [113,117,97,121,47])<;>cases gn (ax (t:= .note) a0 j).text<;>cases decide (((ax (t:= .note) a0 j).text.size:Int)>40)<;>rfl
 ·unfold gR
  cases ic (rL a0) 0 a0.length<;>rfl
noncomputable def q98:Qt
 | [.d (.sl .note) a0]=>some ((gC cD a0),[.d .bool (gR a0)])
 |_=>none
noncomputable def Z6:Gm.Spec:=Gm.Spec.of [.ro] [false] true q98
theorem S':Gm.Good Try.prog (98,Z6):=by
 have hl:∀x∈[(130,SX),(131,SZ),(132,SS)],Gm.Good Try.prog x:=aU.2 ⟨N5,aU.2 ⟨N7,aU.2 ⟨N0,gD⟩⟩⟩
 refine⟨⟨aM (aV.env hl) (bd.cz hl) Try.func98 (by kernel_rfl:Try.f98.body=some Bh) [4] (by kernel_rfl) ?_,_,Try.func98,by kernel_rfl,of_decide_eq_true (by kernel_rfl)⟩,Gm.Spec.aG _ _ _ _⟩
 intro ds outs h
 unfold q98 at h
 split at h
 ·simp only[Option.some.injEq,Prod.mk.injEq] at h;obtain⟨hg,h⟩:=h;cases h;exact JR _ hg
 ·cases h
noncomputable def yH(y0:List aj)(y1:Int):St:=⟨[(0,.c (.one (.ro .aw y0))),(3,.c (.one (.v (.int .i64 y1))))],[],[]⟩
noncomputable def CT:St:=⟨[(2,.c (.one (.v (.bool false))))],[],[]⟩
noncomputable def JS(y0:List aj)(y1:Int)(y2:Bool):St:=⟨[(0,.c (.one (.ro .aw y0))),(3,.c (.one (.v (.int .i64 y1)))),(7,.c (.one (.v (.bool y2))))],[],[]⟩
noncomputable def Bi:Code:=(Try.f92.body).getD .skip
def E4:Nat→Kp:=fF [⟨[0],[],[],[]⟩,⟨[0,3],[],[],[]⟩,⟨[0,3,7],[],[],[]⟩,⟨[0,3],[],[],[]⟩,⟨[0,3,33],[],[],[]⟩,⟨[2],[],[],[]⟩,⟨[2],[],[],[]⟩]
noncomputable def v8:Env:=bd.env [(124,S6)]
noncomputable def pn{R:Type}(n:Nat)(x0:Option R)(x1:Int→Bool→Option R)(wA:List aj):Nat→Int→Option R
  |0,_=>none
  |m+1,wB=>
    (cond (decide (wB<(wA.length:Int)))
   (cond ((decide ((0:Int)≤wB))&&(decide (wB<(wA.length:Int))))
    (cond (aY (ax (t:= .aw) wA (Int.toNat wB)))
     (cond (!(ei (ax (t:= .aw) wA (Int.toNat wB))))
      (x0)
      (cond (decide (wB>(0:Int)))
       (cond ((decide ((0:Int)≤(IntKind.wrap .i64 (wB-(1:Int)))))&&(decide ((IntKind.wrap .i64 (wB-(1:Int)))<(wA.length:Int))))
        (cond ((decide ((0:Int)≤wB))&&(decide (wB<(wA.length:Int))))
         (cond (!(gS (aj.name (ax (t:= .aw) wA (Int.toNat (IntKind.wrap .i64 (wB-(1:Int)))))) (aj.name (ax (t:= .aw) wA (Int.toNat wB)))))
          (x0)
          (pn n x0 x1 wA m (IntKind.wrap .i64 (wB+(1:Int)))))
         none)
        none)
       (pn n x0 x1 wA m (IntKind.wrap .i64 (wB+(1:Int))))))
     none)
    none)
   (x1 wB (decide (wB<(wA.length:Int)))))
theorem Oj{R:Type}(n:Nat)(k':Kx R)(wA:List aj)(wB:Int):ev v8 E4 n (cM [1,0,1,0,0] Bi) (yH wA wB) k'=
 (cond (decide (wB<(wA.length:Int)))
 (cond ((decide ((0:Int)≤wB))&&(decide (wB<(wA.length:Int))))
 (cond (aY (ax (t:= .aw) wA (Int.toNat wB)))
 (cond (!(ei (ax (t:= .aw) wA (Int.toNat wB))))
 (k' .ret CT)
 (cond (decide (wB>(0:Int)))
 (cond ((decide ((0:Int)≤(IntKind.wrap .i64 (wB-(1:Int)))))&&(decide ((IntKind.wrap .i64 (wB-(1:Int)))<(wA.length:Int))))
 (cond ((decide ((0:Int)≤wB))&&(decide (wB<(wA.length:Int))))
 (cond (!(gS (aj.name (ax (t:= .aw) wA (Int.toNat (IntKind.wrap .i64 (wB-(1:Int)))))) (aj.name (ax (t:= .aw) wA (Int.toNat wB)))))
 (k' .ret CT)
 (k' .normal (yH wA (IntKind.wrap .i64 (wB+(1:Int))))))
 none)
 none)
 (k' .normal (yH wA (IntKind.wrap .i64 (wB+(1:Int)))))))
 none)
 none)
 (k' (.exit 0) (JS wA wB (decide (wB<(wA.length:Int)))))):=by kernel_rfl
theorem JT{R:Type}(n:Nat)(k':Kx R)(wA:List aj):∀(m:Nat)(wB:Int),iter (fun st k=>ev v8 E4 n (cM [1,0,1,0,0] Bi) st k) m (yH wA wB) k'=pn n (k' .ret CT) (fun(wR:Int)(wL:Bool)=>k' (.exit 0) (JS wA wR wL)) wA m wB:=by
 intro m;induction m with
 |zero=>intros;rfl
 |succ m ih=>
  intro wB
  simp only[iter]
  rw[Oj]
  simp only[ih,pn]
noncomputable def JU{R:Type}(n:Nat)(k':Kx R):Kx R:=(cL 0 (gd v8 E4 n (cM [1,1] Bi) k'))
theorem JV{R:Type}(n:Nat)(k:Kt R)(a0:List aj):JU n (bt v8 [.ro] [false] true [.tmp 2] [4] [.d (.sl .aw) a0] k) .ret CT=
 (k [.d .bool false]):=by kernel_rfl
theorem JW{R:Type}(n:Nat)(k:Kt R)(a0:List aj)(wA:List aj)(wR:Int)(wL:Bool):JU n (bt v8 [.ro] [false] true [.tmp 2] [4] [.d (.sl .aw) a0] k) (.exit 0) (JS wA wR wL)=
 (k [.d .bool (decide ((wA.length:Int)≤(4:Int)))]):=by kernel_rfl
theorem Ol{R:Type}(n:Nat)(k:Kt R)(a0:List aj):aO v8 E4 n Bi [.ro] [false] true [.tmp 2] [4] [.d (.sl .aw) a0] k=
 (pn n (k [.d .bool false]) (fun(wR:Int)(wL:Bool)=>
 (k [.d .bool (decide ((a0.length:Int)≤(4:Int)))])) a0 n (0:Int)):=by
 refine Eq.trans (b:=(iter (fun st k=>ev v8 E4 n (cM [1,0,1,0,0] Bi) st k) n (yH a0 (0:Int)) (JU n (bt v8 [.ro] [false] true [.tmp 2] [4] [.d (.sl .aw) a0] k)))) (by kernel_rfl) ?_
 simp only[JT,JV,JW]
theorem JX(a0:List aj)(hg:gC aY a0=true):∃keep rounds,∀{R:Type}(k:Kt R),aO v8 keep rounds Bi [.ro] [false] true [.tmp 2] [4] [.d (.sl .aw) a0] k=k [.d .bool (mN a0)]:=by
 have hl:=dU hg
 refine⟨E4,a0.length+1,fun {R} k=> ?_⟩
 rw[Ol]
 refine Eq.trans (eW (n:=a0.length) (F:=fun m i=>pn (a0.length+1) _ _ a0 m i) (p:=As a0) (good:=k [.d .bool (decide ((a0.length:Int)≤(4:Int)))]) (bad:=k [.d .bool false])
  (fun m j hj=> ?_) (fun m=>by simp only[pn,kn,cond_false]) (a0.length) 0 (a0.length+1) (by omega) (by omega)) ?_
 ·obtain⟨h1,h0,hw,ht⟩:=idx hj (by omega)
  have hx:=mM (t:= .aw) hg hj
  simp only[pn,h1,h0,hw,ht,hx,rN,Bool.and_self,cond_true]
  unfold As
  by_cases hz:(j:Int)>0
  ·obtain⟨h2,h3,_,h5⟩:=idx (show j-1<a0.length by omega) (by omega)
   simp only[hz,decide_true,cond_true,Hw hj (by omega) (by omega),h2,h3,h5,Bool.and_self]
   cases ei (ax (t:= .aw) a0 j)<;>cases gS (ax (t:= .aw) a0 (j-1)).name (ax (t:= .aw) a0 j).name<;>rfl
  ·simp only[hz,decide_false,cond_false]
   cases ei (ax (t:= .aw) a0 j)<;>rfl
 ·unfold mN
  cases ic (As a0) 0 a0.length<;>rfl
noncomputable def q92:Qt
 | [.d (.sl .aw) a0]=>some ((gC aY a0),[.d .bool (mN a0)])
 |_=>none
noncomputable def Z7:Gm.Spec:=Gm.Spec.of [.ro] [false] true q92
theorem Ta:Gm.Good Try.prog (92,Z7):=by
 have hl:∀x∈[(124,S6)],Gm.Good Try.prog x:=aU.2 ⟨Ob,gD⟩
 refine⟨⟨aM (aV.env hl) (bd.cz hl) Try.func92 (by kernel_rfl:Try.f92.body=some Bi) [4] (by kernel_rfl) ?_,_,Try.func92,by kernel_rfl,of_decide_eq_true (by kernel_rfl)⟩,Gm.Spec.aG _ _ _ _⟩
 intro ds outs h
 unfold q92 at h
 split at h
 ·simp only[Option.some.injEq,Prod.mk.injEq] at h;obtain⟨hg,h⟩:=h;cases h;exact JX _ hg
 ·cases h
noncomputable def Tc:Code:=(Try.f55.body).getD .skip
def W4:Nat→Kp:=fF [⟨[1],[],[],[]⟩,⟨[2],[],[],[]⟩]
noncomputable def W5:Env:=bd.env [(54,Ez),(91,WH),(92,Z7),(93,Z2),(94,Z5)]
theorem Om{R:Type}(n:Nat)(k:Kt R)(a0:ae):aO W5 W4 n Tc [.ro] [false] true [.tmp 2] [4] [.d .order a0] k=
 (cond (eD (ae.name a0))
 (cond (dK (ae.name a0))
 (cond (eD (ae.target a0))
 (cond (dK (ae.target a0))
 (cond (du (ae.low a0) (1:Int) (ae.high a0))
 (cond (decide ((ae.high a0)≤(1000:Int)))
 (cond (gC aY (ae.aq a0))
 (cond (mN (ae.aq a0))
 (cond (ik (ae.aD a0))
 (cond (gC cD (ae.notes a0))
 (k [.d .bool (gR (ae.notes a0))])
 none)
 (k [.d .bool false]))
 (k [.d .bool false]))
 none)
 (k [.d .bool false]))
 (k [.d .bool false]))
 (k [.d .bool false]))
 none)
 (k [.d .bool false]))
 none):=by kernel_rfl
theorem JY(a0:ae)(hg:aL a0=true):∃keep rounds,∀{R:Type}(k:Kt R),aO W5 keep rounds Tc [.ro] [false] true [.tmp 2] [4] [.d .order a0] k=k [.d .bool (cS a0)]:=by
 simp only[aL,Bool.and_eq_true] at hg
 obtain⟨hn,Z8,qB,Ml,hm,hp,tG⟩:=hg
 have hl:=dU hm
 refine⟨W4,0,fun {R} k=> ?_⟩
 rw[Om]
 simp only[gf hn,gf Z8,hm,tG,cond_true]
 unfold cS
 cases dK a0.name<;>cases dK a0.target<;>cases du a0.low 1 a0.high<;>cases decide (a0.high≤1000)<;>cases mN a0.aq<;>cases ik a0.aD<;>rfl
noncomputable def q55:Qt
 | [.d .order a0]=>some ((aL a0),[.d .bool (cS a0)])
 |_=>none
noncomputable def Z9:Gm.Spec:=Gm.Spec.of [.ro] [false] true q55
theorem Td:Gm.Good Try.prog (55,Z9):=by
 have hl:∀x∈[(54,Ez),(91,WH),(92,Z7),(93,Z2),(94,Z5)],Gm.Good Try.prog x:=aU.2 ⟨oN,aU.2 ⟨Jb,aU.2 ⟨Ta,aU.2 ⟨S3,aU.2 ⟨S9,gD⟩⟩⟩⟩⟩
 refine⟨⟨aM (aV.env hl) (bd.cz hl) Try.func55 (by kernel_rfl:Try.f55.body=some Tc) [4] (by kernel_rfl) ?_,_,Try.func55,by kernel_rfl,of_decide_eq_true (by kernel_rfl)⟩,Gm.Spec.aG _ _ _ _⟩
 intro ds outs h
 unfold q55 at h
 split at h
 ·simp only[Option.some.injEq,Prod.mk.injEq] at h;obtain⟨hg,h⟩:=h;cases h;exact JY _ hg
 ·cases h
noncomputable def yI(y0:List aj)(y1:Int)(y2:Int)(y3:BA)(y4:BA)(y5:Int)(y6:Int)(y7:List aj)(y8:Int)(y9:Int)(Bj:Int)(wa:Int)(sb:List aF):St:=⟨[(1,.c (.one (.pt 1 0))),(6,.c (.one (.ro .aw y0))),(7,.c (.one (.v (.int .i64 y1)))),(8,.c (.one (.v (.int .i64 y2))))],[(1,⟨.order,[.v (.string y3),.v (.string y4),.v (.int .i64 y5),.v (.int .i64 y6),.ro .aw y7,.v (.int .i64 y8),.v (.int .i64 y9),.v (.int .i64 Bj),.v (.int .i64 wa),.ro .note sb]⟩)],[]⟩
noncomputable def CU:St:=⟨[(2,.c (.one (.v (.bool false))))],[],[]⟩
noncomputable def JZ(y0:List aj)(y1:Int)(y2:Int)(y3:Bool)(y4:BA)(y5:BA)(y6:Int)(y7:Int)(y8:List aj)(y9:Int)(Bj:Int)(wa:Int)(sb:Int)(tq:List aF):St:=⟨[(1,.c (.one (.pt 1 0))),(6,.c (.one (.ro .aw y0))),(7,.c (.one (.v (.int .i64 y1)))),(8,.c (.one (.v (.int .i64 y2)))),(9,.c (.one (.v (.bool y3))))],[(1,⟨.order,[.v (.string y4),.v (.string y5),.v (.int .i64 y6),.v (.int .i64 y7),.ro .aw y8,.v (.int .i64 y9),.v (.int .i64 Bj),.v (.int .i64 wa),.v (.int .i64 sb),.ro .note tq]⟩)],[]⟩
noncomputable def Bl:Code:=(Try.f57.body).getD .skip
def E5:Nat→Kp:=fF [⟨[1],[],[],[]⟩,⟨[1,6,7,8],[],[],[]⟩,⟨[1,6,7,8,9],[],[],[]⟩,⟨[1,3,4,6,7,8],[],[],[]⟩,⟨[1,6,7,8,31],[],[],[]⟩,⟨[2],[],[],[]⟩,⟨[1,6,7,8],[],[],[]⟩,⟨[2],[],[],[]⟩]
noncomputable def wb:Env:=bd.env [(56,tp),(95,Z4),(96,WI),(97,Z3),(98,Z6)]
noncomputable def po{R:Type}(n:Nat)(x0:Option R)(x1:Int→Bool→Option R)(wD:List aj)(wC:Int)(wH:BA)(wI:BA)(wM:Int)(wJ:Int)(wG:List aj)(wN:Int)(wO:Int)(wP:Int)(wQ:Int)(wK:List aF):Nat→Int→Option R
  |0,_=>none
  |m+1,wE=>
    (cond (decide (wE<wC))
   (cond ((decide ((0:Int)≤wE))&&(decide (wE<(wD.length:Int))))
    (cond (aY (ax (t:= .aw) wD (Int.toNat wE)))
     (cond (!(ei (ax (t:= .aw) wD (Int.toNat wE))))
      (x0)
      (cond (decide (wE>(0:Int)))
       (cond ((decide ((0:Int)≤(IntKind.wrap .i64 (wE-(1:Int)))))&&(decide ((IntKind.wrap .i64 (wE-(1:Int)))<(wG.length:Int))))
        (cond (!(gS (aj.name (ax (t:= .aw) wG (Int.toNat (IntKind.wrap .i64 (wE-(1:Int)))))) (aj.name (ax (t:= .aw) wD (Int.toNat wE)))))
         (x0)
         (po n x0 x1 wD wC wH wI wM wJ wG wN wO wP wQ wK m (IntKind.wrap .i64 (wE+(1:Int)))))
        none)
       (po n x0 x1 wD wC wH wI wM wJ wG wN wO wP wQ wK m (IntKind.wrap .i64 (wE+(1:Int))))))
     none)
    none)
   (x1 wE (decide (wE<wC))))
theorem On{R:Type}(n:Nat)(k':Kx R)(wD:List aj)(wC:Int)(wE:Int)(wH:BA)(wI:BA)(wM:Int)(wJ:Int)(wG:List aj)(wN:Int)(wO:Int)(wP:Int)(wQ:Int)(wK:List aF):ev wb E5 n (cM [1,0,1,0,0] Bl) (yI wD wC wE wH wI wM wJ wG wN wO wP wQ wK) k'=
 (cond (decide (wE<wC))
 (cond ((decide ((0:Int)≤wE))&&(decide (wE<(wD.length:Int))))
 (cond (aY (ax (t:= .aw) wD (Int.toNat wE)))
 (cond (!(ei (ax (t:= .aw) wD (Int.toNat wE))))
 (k' .ret CU)
 (cond (decide (wE>(0:Int)))
 (cond ((decide ((0:Int)≤(IntKind.wrap .i64 (wE-(1:Int)))))&&(decide ((IntKind.wrap .i64 (wE-(1:Int)))<(wG.length:Int))))
 (cond (!(gS (aj.name (ax (t:= .aw) wG (Int.toNat (IntKind.wrap .i64 (wE-(1:Int)))))) (aj.name (ax (t:= .aw) wD (Int.toNat wE)))))
 (k' .ret CU)
 (k' .normal (yI wD wC (IntKind.wrap .i64 (wE+(1:Int))) wH wI wM wJ wG wN wO wP wQ wK)))
 none)
 (k' .normal (yI wD wC (IntKind.wrap .i64 (wE+(1:Int))) wH wI wM wJ wG wN wO wP wQ wK))))
 none)
 none)
 (k' (.exit 0) (JZ wD wC wE (decide (wE<wC)) wH wI wM wJ wG wN wO wP wQ wK))):=by kernel_rfl
theorem J0{R:Type}(n:Nat)(k':Kx R)(wD:List aj)(wC:Int)(wH:BA)(wI:BA)(wM:Int)(wJ:Int)(wG:List aj)(wN:Int)(wO:Int)(wP:Int)(wQ:Int)(wK:List aF):∀(m:Nat)(wE:Int),iter (fun st k=>ev wb E5 n (cM [1,0,1,0,0] Bl) st k) m (yI wD wC wE wH wI wM wJ wG wN wO wP wQ wK) k'=po n (k' .ret CU) (fun(wS:Int)(wT:Bool)=>k' (.exit 0) (JZ wD wC wS wT wH wI wM wJ wG wN wO wP wQ wK)) wD wC wH wI wM wJ wG wN wO wP wQ wK m wE:=by
 intro m;induction m with
 |zero=>intros;rfl
 |succ m ih=>
  intro wE
  simp only[iter]
  rw[On]
  simp only[ih,po]
noncomputable def J1{R:Type}(n:Nat)(k':Kx R):Kx R:=(cL 0 (gd wb E5 n (cM [1,1] Bl) k'))
theorem J2{R:Type}(n:Nat)(k:Kt R)(a0:ae):J1 n (bt wb [.ro] [false] true [.tmp 2] [4] [.d .order a0] k) .ret CU=
 (k [.d .bool false]):=by kernel_rfl
theorem J3{R:Type}(n:Nat)(k:Kt R)(a0:ae)(wD:List aj)(wC:Int)(wH:BA)(wI:BA)(wM:Int)(wJ:Int)(wG:List aj)(wN:Int)(wO:Int)(wP:Int)(wQ:Int)(wK:List aF)(wS:Int)(wT:Bool):J1 n (bt wb [.ro] [false] true [.tmp 2] [4] [.d .order a0] k) (.exit 0) (JZ wD wC wS wT wH wI wM wJ wG wN wO wP wQ wK)=
 (cond (eD wH)
 (cond (dK wH)
 (cond (eD wI)
 (cond (dK wI)
 (cond (du wM (1:Int) wJ)
 (cond (decide (wJ≤(1000:Int)))
 (cond (decide ((wG.length:Int)≤(4:Int)))
 (cond (ik (⟨wN,wO,wP,wQ⟩:aB))
 (cond (gC cD wK)
 (k [.d .bool (gR wK)])
 none)
 (k [.d .bool false]))
 (k [.d .bool false]))
 (k [.d .bool false]))
 (k [.d .bool false]))
 (k [.d .bool false]))
 none)
 (k [.d .bool false]))
 none):=by kernel_rfl
theorem Oo{R:Type}(n:Nat)(k:Kt R)(a0:ae):aO wb E5 n Bl [.ro] [false] true [.tmp 2] [4] [.d .order a0] k=
 (po n (k [.d .bool false]) (fun(wS:Int)(wT:Bool)=>
 (cond (eD (ae.name a0))
 (cond (dK (ae.name a0))
 (cond (eD (ae.target a0))
 (cond (dK (ae.target a0))
 (cond (du (ae.low a0) (1:Int) (ae.high a0))
 (cond (decide ((ae.high a0)≤(1000:Int)))
 (cond (decide (((ae.aq a0).length:Int)≤(4:Int)))
 (cond (ik (⟨(aB.up (ae.aD a0)),(aB.down (ae.aD a0)),(aB.bU (ae.aD a0)),(aB.bm (ae.aD a0))⟩:aB))
 (cond (gC cD (ae.notes a0))
 (k [.d .bool (gR (ae.notes a0))])
 none)
 (k [.d .bool false]))
 (k [.d .bool false]))
 (k [.d .bool false]))
 (k [.d .bool false]))
 (k [.d .bool false]))
 none)
 (k [.d .bool false]))
 none)) (ae.aq a0) ((ae.aq a0).length:Int) (ae.name a0) (ae.target a0) (ae.low a0) (ae.high a0) (ae.aq a0) (aB.up (ae.aD a0)) (aB.down (ae.aD a0)) (aB.bU (ae.aD a0)) (aB.bm (ae.aD a0)) (ae.notes a0) n (0:Int)):=by
 refine Eq.trans (b:=(iter (fun st k=>ev wb E5 n (cM [1,0,1,0,0] Bl) st k) n (yI (ae.aq a0) ((ae.aq a0).length:Int) (0:Int) (ae.name a0) (ae.target a0) (ae.low a0) (ae.high a0) (ae.aq a0) (aB.up (ae.aD a0)) (aB.down (ae.aD a0)) (aB.bU (ae.aD a0)) (aB.bm (ae.aD a0)) (ae.notes a0)) (J1 n (bt wb [.ro] [false] true [.tmp 2] [4] [.d .order a0] k)))) (by kernel_rfl) ?_
 simp only[J0,J2,J3]
theorem J4(a0:ae)(hg:aL a0=true):∃keep rounds,∀{R:Type}(k:Kt R),aO wb keep rounds Bl [.ro] [false] true [.tmp 2] [4] [.d .order a0] k=k [.d .bool (cS a0)]:=by
 simp only[aL,Bool.and_eq_true] at hg
 obtain⟨hn,Z8,qB,Ml,hm,hp,tG⟩:=hg
 have hl:=dU hm
 refine⟨E5,a0.aq.length+1,fun {R} k=> ?_⟩
 rw[Oo]
 simp only[gf hn,gf Z8,tG,HA,cond_true]
 refine Eq.trans (eW (n:=a0.aq.length) (F:=fun m i=>po (a0.aq.length+1) _ _ a0.aq (a0.aq.length:Int) a0.name a0.target a0.low a0.high a0.aq a0.aD.up a0.aD.down a0.aD.bU a0.aD.bm a0.notes m i) (p:=As a0.aq) (good:=cond (dK a0.name) (cond (dK a0.target) (cond (du a0.low 1 a0.high) (cond (decide (a0.high≤1000)) (cond (decide ((a0.aq.length:Int)≤4)) (cond (ik a0.aD) (k [.d .bool (gR a0.notes)]) (k [.d .bool false])) (k [.d .bool false])) (k [.d .bool false])) (k [.d .bool false])) (k [.d .bool false])) (k [.d .bool false])) (bad:=k [.d .bool false])
  (fun m j hj=> ?_) (fun m=>by simp only[po,kn,cond_false]) (a0.aq.length) 0 (a0.aq.length+1) (by omega) (by omega)) ?_
 ·obtain⟨h1,h0,hw,ht⟩:=idx hj (by omega)
  have hx:=mM (t:= .aw) hm hj
  simp only[po,h1,h0,hw,ht,hx,rN,Bool.and_self,cond_true]
  unfold As
  by_cases hz:(j:Int)>0
  ·obtain⟨h2,h3,_,h5⟩:=idx (show j-1<a0.aq.length by omega) (by omega)
   simp only[hz,decide_true,cond_true,Hw hj (by omega) (by omega),h2,h3,h5,Bool.and_self]
   cases ei (ax (t:= .aw) a0.aq j)<;>cases gS (ax (t:= .aw) a0.aq (j-1)).name (ax (t:= .aw) a0.aq j).name<;>rfl
  ·simp only[hz,decide_false,cond_false]
   cases ei (ax (t:= .aw) a0.aq j)<;>rfl
 ·unfold cS mN
  cases dK a0.name<;>cases dK a0.target<;>cases du a0.low 1 a0.high<;>cases decide (a0.high≤1000)<;>cases ic (As a0.aq) 0 a0.aq.length<;>cases decide ((a0.aq.length:Int)≤4)<;>cases ik a0.aD<;>rfl
noncomputable def q57:Qt
 | [.d .order a0]=>some ((aL a0),[.d .bool (cS a0)])
 |_=>none
noncomputable def W6:Gm.Spec:=Gm.Spec.of [.ro] [false] true q57
theorem J5:Gm.Good Try.prog (57,W6):=by
 have hl:∀x∈[(56,tp),(95,Z4),(96,WI),(97,Z3),(98,Z6)],Gm.Good Try.prog x:=aU.2 ⟨jY,aU.2 ⟨S8,aU.2 ⟨Ji,aU.2 ⟨S5,aU.2 ⟨S',gD⟩⟩⟩⟩⟩
 refine⟨⟨aM (aV.env hl) (bd.cz hl) Try.func57 (by kernel_rfl:Try.f57.body=some Bl) [4] (by kernel_rfl) ?_,_,Try.func57,by kernel_rfl,of_decide_eq_true (by kernel_rfl)⟩,Gm.Spec.aG _ _ _ _⟩
 intro ds outs h
 unfold q57 at h
 split at h
 ·simp only[Option.some.injEq,Prod.mk.injEq] at h;obtain⟨hg,h⟩:=h;cases h;exact J4 _ hg
 ·cases h
noncomputable def J6:Code:=(Try.f106.body).getD .skip
def QI:Nat→Kp:=fF [⟨[1,2],[],[],[]⟩,⟨[3],[],[],[]⟩]
noncomputable def QJ:Env:=bd.env []
theorem J7{R:Type}(n:Nat)(k:Kt R)(a0:af)(a1:af):aO QJ QI n J6 [.ro,.sG] [false] true [.tmp 3] [4] [.d .item a0,.d .item a1] k=
 (k [.d .bool ((af.ver a0)==(af.ver a1))]):=by kernel_rfl
theorem E6(a0:af)(a1:af):∃keep rounds,∀{R:Type}(k:Kt R),aO QJ keep rounds J6 [.ro,.sG] [false] true [.tmp 3] [4] [.d .item a0,.d .item a1] k=k [.d .bool (pc a0 a1)]:=by
 exact⟨QI,0,fun k=>J7 0 k a0 a1⟩
noncomputable def W7:Qt
 | [.d .item a0,.d .item a1]=>some (true,[.d .bool (pc a0 a1)])
 |_=>none
noncomputable def Bm:Gm.Spec:=Gm.Spec.of [.ro,.sG] [false] true W7
theorem wc:Gm.Good Try.prog (106,Bm):=by
 have hl:∀x∈([]:List (Nat×Gm.Spec)),Gm.Good Try.prog x:=fun _ h=>by cases h
 refine⟨⟨aM (aV.env hl) (bd.cz hl) Try.func106 (by kernel_rfl:Try.f106.body=some J6) [4] (by kernel_rfl) ?_,_,Try.func106,by kernel_rfl,of_decide_eq_true (by kernel_rfl)⟩,Gm.Spec.aG _ _ _ _⟩
 intro ds outs h
 unfold W7 at h
 split at h
 ·cases h;exact E6 _ _
 ·cases h
noncomputable def J8:Code:=(Try.f103.body).getD .skip
def QK:Nat→Kp:=fF [⟨[1,2],[],[],[]⟩,⟨[3],[],[],[]⟩]
noncomputable def QL:Env:=bd.env []
theorem J9{R:Type}(n:Nat)(k:Kt R)(a0:af)(a1:BA):aO QL QK n J8 [.ro,.sG] [false] true [.tmp 3] [4] [.d .item a0,.d .str a1] k=
 (k [.d .bool (fX (ae.name (af.order a0)) a1)]):=by kernel_rfl
theorem E7(a0:af)(a1:BA):∃keep rounds,∀{R:Type}(k:Kt R),aO QL keep rounds J8 [.ro,.sG] [false] true [.tmp 3] [4] [.d .item a0,.d .str a1] k=k [.d .bool (js a0 a1)]:=by
 exact⟨QK,0,fun k=>J9 0 k a0 a1⟩
noncomputable def W8:Qt
 | [.d .item a0,.d .str a1]=>some (true,[.d .bool (js a0 a1)])
 |_=>none
noncomputable def J':Gm.Spec:=Gm.Spec.of [.ro,.sG] [false] true W8
theorem CV:Gm.Good Try.prog (103,J'):=by
 have hl:∀x∈([]:List (Nat×Gm.Spec)),Gm.Good Try.prog x:=fun _ h=>by cases h
 refine⟨⟨aM (aV.env hl) (bd.cz hl) Try.func103 (by kernel_rfl:Try.f103.body=some J8) [4] (by kernel_rfl) ?_,_,Try.func103,by kernel_rfl,of_decide_eq_true (by kernel_rfl)⟩,Gm.Spec.aG _ _ _ _⟩
 intro ds outs h
 unfold W8 at h
 split at h
 ·cases h;exact E7 _ _
 ·cases h
noncomputable def Ka:Code:=(Try.f109.body).getD .skip
def QM:Nat→Kp:=fF [⟨[1,2],[],[],[]⟩,⟨[3],[],[],[]⟩]
noncomputable def QN:Env:=bd.env []
theorem Kb{R:Type}(n:Nat)(k:Kt R)(a0:af)(a1:af):aO QN QM n Ka [.ro,.sG] [false] true [.tmp 3] [4] [.d .item a0,.d .item a1] k=
 (k [.d .bool (!((gS (ae.name (af.order a0)) (ae.name (af.order a1)))||(fX (ae.name (af.order a0)) (ae.name (af.order a1)))))]):=by kernel_rfl
theorem E8(a0:af)(a1:af):∃keep rounds,∀{R:Type}(k:Kt R),aO QN keep rounds Ka [.ro,.sG] [false] true [.tmp 3] [4] [.d .item a0,.d .item a1] k=k [.d .bool (oJ a0 a1)]:=by
 exact⟨QM,0,fun k=>Kb 0 k a0 a1⟩
noncomputable def W9:Qt
 | [.d .item a0,.d .item a1]=>some (true,[.d .bool (oJ a0 a1)])
 |_=>none
noncomputable def Kc:Gm.Spec:=Gm.Spec.of [.ro,.sG] [false] true W9
theorem CW:Gm.Good Try.prog (109,Kc):=by
 have hl:∀x∈([]:List (Nat×Gm.Spec)),Gm.Good Try.prog x:=fun _ h=>by cases h
 refine⟨⟨aM (aV.env hl) (bd.cz hl) Try.func109 (by kernel_rfl:Try.f109.body=some Ka) [4] (by kernel_rfl) ?_,_,Try.func109,by kernel_rfl,of_decide_eq_true (by kernel_rfl)⟩,Gm.Spec.aG _ _ _ _⟩
 intro ds outs h
 unfold W9 at h
 split at h
 ·cases h;exact E8 _ _
 ·cases h
noncomputable def pX(y0:List af)(y1:af)(y2:Int)(y3:Int):St:=⟨[(0,.c (.one (.ro .item y0))),(1,.c (.one (.j5 106 [⟨.item,y1⟩]))),(7,.c (.one (.v (.int .i64 y2)))),(8,.c (.one (.v (.int .i64 y3))))],[],[]⟩
noncomputable def we(y0:Int):St:=⟨[(4,.c (.one (.v (.int .i64 y0))))],[],[]⟩
noncomputable def wg(y0:List af)(y1:af)(y2:Int)(y3:Int)(y4:Bool):St:=⟨[(0,.c (.one (.ro .item y0))),(1,.c (.one (.j5 106 [⟨.item,y1⟩]))),(7,.c (.one (.v (.int .i64 y2)))),(8,.c (.one (.v (.int .i64 y3)))),(9,.c (.one (.v (.bool y4))))],[],[]⟩
noncomputable def mU:Code:=(Try.f102.body).getD .skip
def oP:Nat→Kp:=fF [⟨[0,1],[],[],[]⟩,⟨[0,1,7,8],[],[],[]⟩,⟨[0,1,7,8,9],[],[],[]⟩,⟨[0,1,5,7,8],[],[],[]⟩,⟨[0,1,5,7,8,16],[],[],[]⟩,⟨[4],[],[],[]⟩,⟨[0,1,7,8],[],[],[]⟩,⟨[4],[],[],[]⟩]
noncomputable def kQ:Env:=bd.env [(106,Bm)]
noncomputable def kR{R:Type}(n:Nat)(x0:Int→Option R)(x1:Int→Bool→Option R)(wC:List af)(bG:af)(wD:Int):Nat→Int→Option R
  |0,_=>none
  |m+1,wA=>
    (cond (decide (wA<wD))
   (cond ((decide ((0:Int)≤wA))&&(decide (wA<(wC.length:Int))))
    (cond (pc (ax (t:= .item) wC (Int.toNat wA)) bG)
     (x0 wA)
     (kR n x0 x1 wC bG wD m (IntKind.wrap .i64 (wA+(1:Int)))))
    none)
   (x1 wA (decide (wA<wD))))
theorem E9{R:Type}(n:Nat)(k':Kx R)(wC:List af)(bG:af)(wD:Int)(wA:Int):ev kQ oP n (cM [1,0,1,0,0] mU) (pX wC bG wD wA) k'=
 (cond (decide (wA<wD))
 (cond ((decide ((0:Int)≤wA))&&(decide (wA<(wC.length:Int))))
 (cond (pc (ax (t:= .item) wC (Int.toNat wA)) bG)
 (k' .ret (we wA))
 (k' .normal (pX wC bG wD (IntKind.wrap .i64 (wA+(1:Int))))))
 none)
 (k' (.exit 0) (wg wC bG wD wA (decide (wA<wD))))):=by kernel_rfl
theorem Bn{R:Type}(n:Nat)(k':Kx R)(wC:List af)(bG:af)(wD:Int):∀(m:Nat)(wA:Int),iter (fun st k=>ev kQ oP n (cM [1,0,1,0,0] mU) st k) m (pX wC bG wD wA) k'=kR n (fun(wG:Int)=>k' .ret (we wG)) (fun(wJ:Int)(wK:Bool)=>k' (.exit 0) (wg wC bG wD wJ wK)) wC bG wD m wA:=by
 intro m;induction m with
 |zero=>intros;rfl
 |succ m ih=>
  intro wA
  simp only[iter]
  rw[E9]
  simp only[ih,kR]
noncomputable def wh{R:Type}(n:Nat)(k':Kx R):Kx R:=(cL 0 (gd kQ oP n (cM [1,1] mU) k'))
theorem Bo{R:Type}(n:Nat)(k:Kt R)(a0:List af)(a1:af)(wG:Int):wh n (bt kQ [.ro,.fn] [false] true [.tmp 4] [3] [.d (.sl .item) a0,.fq 106 [⟨.item,a1⟩]] k) .ret (we wG)=
 (k [.d (.i .i64) wG]):=by kernel_rfl
theorem Bp{R:Type}(n:Nat)(k:Kt R)(a0:List af)(a1:af)(wC:List af)(bG:af)(wD:Int)(wJ:Int)(wK:Bool):wh n (bt kQ [.ro,.fn] [false] true [.tmp 4] [3] [.d (.sl .item) a0,.fq 106 [⟨.item,a1⟩]] k) (.exit 0) (wg wC bG wD wJ wK)=
 (k [.d (.i .i64) (-1:Int)]):=by kernel_rfl
theorem E'{R:Type}(n:Nat)(k:Kt R)(a0:List af)(a1:af):aO kQ oP n mU [.ro,.fn] [false] true [.tmp 4] [3] [.d (.sl .item) a0,.fq 106 [⟨.item,a1⟩]] k=
 (kR n (fun(wG:Int)=>
 (k [.d (.i .i64) wG])) (fun(wJ:Int)(wK:Bool)=>
 (k [.d (.i .i64) (-1:Int)])) a0 a1 (a0.length:Int) n (0:Int)):=by
 refine Eq.trans (b:=(iter (fun st k=>ev kQ oP n (cM [1,0,1,0,0] mU) st k) n (pX a0 a1 (a0.length:Int) (0:Int)) (wh n (bt kQ [.ro,.fn] [false] true [.tmp 4] [3] [.d (.sl .item) a0,.fq 106 [⟨.item,a1⟩]] k)))) (by kernel_rfl) ?_
 simp only[Bn,Bo,Bp]
theorem Bq(a0:List af)(a1:af)(hg:ec a0=true):∃keep rounds,∀{R:Type}(k:Kt R),aO kQ keep rounds mU [.ro,.fn] [false] true [.tmp 4] [3] [.d (.sl .item) a0,.fq 106 [⟨.item,a1⟩]] k=k [.d (.i .i64) (CD a0 a1)]:=by
 have hl:=kq hg
 refine⟨oP,a0.length+1,fun k=> ?_⟩
 rw[E']
 refine Eq.trans (l5 (n:=a0.length) (F:=fun m i=>kR (a0.length+1) _ _ a0 a1 (a0.length:Int) m i) (p:=fun j=>pc (ax (t:= .item) a0 j) a1) (hit:=fun i=>k [.d (.i .i64) i]) (miss:=k [.d (.i .i64) (-1:Int)])
  (fun m j hj=> ?_) (fun m=>by simp only[kR,kn,cond_false]) a0.length 0 (a0.length+1) (by omega) (by omega)) ?_
 ·obtain⟨h1,h0,hw,ht⟩:=idx hj (by omega)
  simp only[kR,h1,h0,hw,ht,Bool.and_self,cond_true]
 ·show _=k [.d (.i .i64) (R8 _)]
  cases fj (fun j=>pc (ax (t:= .item) a0 j) a1) 0 a0.length<;>rfl
noncomputable def yJ:Qt
 | [.d (.sl .item) a0,.fq 106 [⟨.item,a1⟩]]=>some (((fun(x:List af)(_:af)=>ec x) a0 a1),[.d (.i .i64) (CD a0 a1)])
 |_=>none
noncomputable def Xa:Gm.Spec:=Gm.Spec.of [.ro,.fn] [false] true yJ
theorem yK:Gm.Good Try.prog (102,Xa):=by
 have hl:∀x∈[(106,Bm)],Gm.Good Try.prog x:=aU.2 ⟨wc,gD⟩
 refine⟨⟨aM (aV.env hl) (bd.cz hl) Try.func102 (by kernel_rfl:Try.f102.body=some mU) [3] (by kernel_rfl) ?_,_,Try.func102,by kernel_rfl,of_decide_eq_true (by kernel_rfl)⟩,Gm.Spec.aG _ _ _ _⟩
 intro ds outs h
 unfold yJ at h
 split at h
 ·simp only[Option.some.injEq,Prod.mk.injEq] at h;obtain⟨hg,h⟩:=h;cases h;exact Bq _ _ hg
 ·cases h
noncomputable def pY(y0:List af)(y1:BA)(y2:Int)(y3:Int):St:=⟨[(0,.c (.one (.ro .item y0))),(1,.c (.one (.j5 103 [⟨.str,y1⟩]))),(7,.c (.one (.v (.int .i64 y2)))),(8,.c (.one (.v (.int .i64 y3))))],[],[]⟩
noncomputable def wi(y0:Int):St:=⟨[(4,.c (.one (.v (.int .i64 y0))))],[],[]⟩
noncomputable def wj(y0:List af)(y1:BA)(y2:Int)(y3:Int)(y4:Bool):St:=⟨[(0,.c (.one (.ro .item y0))),(1,.c (.one (.j5 103 [⟨.str,y1⟩]))),(7,.c (.one (.v (.int .i64 y2)))),(8,.c (.one (.v (.int .i64 y3)))),(9,.c (.one (.v (.bool y4))))],[],[]⟩
noncomputable def mV:Code:=(Try.f102.body).getD .skip
def oQ:Nat→Kp:=fF [⟨[0,1],[],[],[]⟩,⟨[0,1,7,8],[],[],[]⟩,⟨[0,1,7,8,9],[],[],[]⟩,⟨[0,1,5,7,8],[],[],[]⟩,⟨[0,1,5,7,8,16],[],[],[]⟩,⟨[4],[],[],[]⟩,⟨[0,1,7,8],[],[],[]⟩,⟨[4],[],[],[]⟩]
noncomputable def kS:Env:=bd.env [(103,J')]
noncomputable def kT{R:Type}(n:Nat)(x0:Int→Option R)(x1:Int→Bool→Option R)(wC:List af)(bG:BA)(wD:Int):Nat→Int→Option R
  |0,_=>none
  |m+1,wA=>
    (cond (decide (wA<wD))
   (cond ((decide ((0:Int)≤wA))&&(decide (wA<(wC.length:Int))))
    (cond (js (ax (t:= .item) wC (Int.toNat wA)) bG)
     (x0 wA)
     (kT n x0 x1 wC bG wD m (IntKind.wrap .i64 (wA+(1:Int)))))
    none)
   (x1 wA (decide (wA<wD))))
theorem Fa{R:Type}(n:Nat)(k':Kx R)(wC:List af)(bG:BA)(wD:Int)(wA:Int):ev kS oQ n (cM [1,0,1,0,0] mV) (pY wC bG wD wA) k'=
 (cond (decide (wA<wD))
 (cond ((decide ((0:Int)≤wA))&&(decide (wA<(wC.length:Int))))
 (cond (js (ax (t:= .item) wC (Int.toNat wA)) bG)
 (k' .ret (wi wA))
 (k' .normal (pY wC bG wD (IntKind.wrap .i64 (wA+(1:Int))))))
 none)
 (k' (.exit 0) (wj wC bG wD wA (decide (wA<wD))))):=by kernel_rfl
theorem Br{R:Type}(n:Nat)(k':Kx R)(wC:List af)(bG:BA)(wD:Int):∀(m:Nat)(wA:Int),iter (fun st k=>ev kS oQ n (cM [1,0,1,0,0] mV) st k) m (pY wC bG wD wA) k'=kT n (fun(wG:Int)=>k' .ret (wi wG)) (fun(wJ:Int)(wK:Bool)=>k' (.exit 0) (wj wC bG wD wJ wK)) wC bG wD m wA:=by
 intro m;induction m with
 |zero=>intros;rfl
 |succ m ih=>
  intro wA
  simp only[iter]
  rw[Fa]
  simp only[ih,kT]
noncomputable def wk{R:Type}(n:Nat)(k':Kx R):Kx R:=(cL 0 (gd kS oQ n (cM [1,1] mV) k'))
theorem Bt{R:Type}(n:Nat)(k:Kt R)(a0:List af)(a1:BA)(wG:Int):wk n (bt kS [.ro,.fn] [false] true [.tmp 4] [3] [.d (.sl .item) a0,.fq 103 [⟨.str,a1⟩]] k) .ret (wi wG)=
 (k [.d (.i .i64) wG]):=by kernel_rfl
theorem Bu{R:Type}(n:Nat)(k:Kt R)(a0:List af)(a1:BA)(wC:List af)(bG:BA)(wD:Int)(wJ:Int)(wK:Bool):wk n (bt kS [.ro,.fn] [false] true [.tmp 4] [3] [.d (.sl .item) a0,.fq 103 [⟨.str,a1⟩]] k) (.exit 0) (wj wC bG wD wJ wK)=
 (k [.d (.i .i64) (-1:Int)]):=by kernel_rfl
theorem Fb{R:Type}(n:Nat)(k:Kt R)(a0:List af)(a1:BA):aO kS oQ n mV [.ro,.fn] [false] true [.tmp 4] [3] [.d (.sl .item) a0,.fq 103 [⟨.str,a1⟩]] k=
 (kT n (fun(wG:Int)=>
 (k [.d (.i .i64) wG])) (fun(wJ:Int)(wK:Bool)=>
 (k [.d (.i .i64) (-1:Int)])) a0 a1 (a0.length:Int) n (0:Int)):=by
 refine Eq.trans (b:=(iter (fun st k=>ev kS oQ n (cM [1,0,1,0,0] mV) st k) n (pY a0 a1 (a0.length:Int) (0:Int)) (wk n (bt kS [.ro,.fn] [false] true [.tmp 4] [3] [.d (.sl .item) a0,.fq 103 [⟨.str,a1⟩]] k)))) (by kernel_rfl) ?_
 simp only[Br,Bt,Bu]
theorem Bv(a0:List af)(a1:BA)(hg:ec a0=true):∃keep rounds,∀{R:Type}(k:Kt R),aO kS keep rounds mV [.ro,.fn] [false] true [.tmp 4] [3] [.d (.sl .item) a0,.fq 103 [⟨.str,a1⟩]] k=k [.d (.i .i64) (dw a0 a1)]:=by
 have hl:=kq hg
 refine⟨oQ,a0.length+1,fun k=> ?_⟩
 rw[Fb]
 refine Eq.trans (l5 (n:=a0.length) (F:=fun m i=>kT (a0.length+1) _ _ a0 a1 (a0.length:Int) m i) (p:=fun j=>js (ax (t:= .item) a0 j) a1) (hit:=fun i=>k [.d (.i .i64) i]) (miss:=k [.d (.i .i64) (-1:Int)])
  (fun m j hj=> ?_) (fun m=>by simp only[kT,kn,cond_false]) a0.length 0 (a0.length+1) (by omega) (by omega)) ?_
 ·obtain⟨h1,h0,hw,ht⟩:=idx hj (by omega)
  simp only[kT,h1,h0,hw,ht,Bool.and_self,cond_true]
 ·show _=k [.d (.i .i64) (R8 _)]
  cases fj (fun j=>js (ax (t:= .item) a0 j) a1) 0 a0.length<;>rfl
noncomputable def yL:Qt
 | [.d (.sl .item) a0,.fq 103 [⟨.str,a1⟩]]=>some (((fun(x:List af)(_:BA)=>ec x) a0 a1),[.d (.i .i64) (dw a0 a1)])
 |_=>none
noncomputable def Xb:Gm.Spec:=Gm.Spec.of [.ro,.fn] [false] true yL
theorem Kd:Gm.Good Try.prog (102,Xb):=by
 have hl:∀x∈[(103,J')],Gm.Good Try.prog x:=aU.2 ⟨CV,gD⟩
 refine⟨⟨aM (aV.env hl) (bd.cz hl) Try.func102 (by kernel_rfl:Try.f102.body=some mV) [3] (by kernel_rfl) ?_,_,Try.func102,by kernel_rfl,of_decide_eq_true (by kernel_rfl)⟩,Gm.Spec.aG _ _ _ _⟩
 intro ds outs h
 unfold yL at h
 split at h
 ·simp only[Option.some.injEq,Prod.mk.injEq] at h;obtain⟨hg,h⟩:=h;cases h;exact Bv _ _ hg
 ·cases h
noncomputable def pZ(y0:List af)(y1:af)(y2:Int)(y3:Int):St:=⟨[(0,.c (.one (.ro .item y0))),(1,.c (.one (.j5 109 [⟨.item,y1⟩]))),(7,.c (.one (.v (.int .i64 y2)))),(8,.c (.one (.v (.int .i64 y3))))],[],[]⟩
noncomputable def wm(y0:Int):St:=⟨[(4,.c (.one (.v (.int .i64 y0))))],[],[]⟩
noncomputable def wo(y0:List af)(y1:af)(y2:Int)(y3:Int)(y4:Bool):St:=⟨[(0,.c (.one (.ro .item y0))),(1,.c (.one (.j5 109 [⟨.item,y1⟩]))),(7,.c (.one (.v (.int .i64 y2)))),(8,.c (.one (.v (.int .i64 y3)))),(9,.c (.one (.v (.bool y4))))],[],[]⟩
noncomputable def mW:Code:=(Try.f102.body).getD .skip
def oR:Nat→Kp:=fF [⟨[0,1],[],[],[]⟩,⟨[0,1,7,8],[],[],[]⟩,⟨[0,1,7,8,9],[],[],[]⟩,⟨[0,1,5,7,8],[],[],[]⟩,⟨[0,1,5,7,8,16],[],[],[]⟩,⟨[4],[],[],[]⟩,⟨[0,1,7,8],[],[],[]⟩,⟨[4],[],[],[]⟩]
noncomputable def kU:Env:=bd.env [(109,Kc)]
noncomputable def kV{R:Type}(n:Nat)(x0:Int→Option R)(x1:Int→Bool→Option R)(wC:List af)(bG:af)(wD:Int):Nat→Int→Option R
  |0,_=>none
  |m+1,wA=>
    (cond (decide (wA<wD))
   (cond ((decide ((0:Int)≤wA))&&(decide (wA<(wC.length:Int))))
    (cond (oJ (ax (t:= .item) wC (Int.toNat wA)) bG)
     (x0 wA)
     (kV n x0 x1 wC bG wD m (IntKind.wrap .i64 (wA+(1:Int)))))
    none)
   (x1 wA (decide (wA<wD))))
theorem Fc{R:Type}(n:Nat)(k':Kx R)(wC:List af)(bG:af)(wD:Int)(wA:Int):ev kU oR n (cM [1,0,1,0,0] mW) (pZ wC bG wD wA) k'=
 (cond (decide (wA<wD))
 (cond ((decide ((0:Int)≤wA))&&(decide (wA<(wC.length:Int))))
 (cond (oJ (ax (t:= .item) wC (Int.toNat wA)) bG)
 (k' .ret (wm wA))
 (k' .normal (pZ wC bG wD (IntKind.wrap .i64 (wA+(1:Int))))))
 none)
 (k' (.exit 0) (wo wC bG wD wA (decide (wA<wD))))):=by kernel_rfl
theorem Bw{R:Type}(n:Nat)(k':Kx R)(wC:List af)(bG:af)(wD:Int):∀(m:Nat)(wA:Int),iter (fun st k=>ev kU oR n (cM [1,0,1,0,0] mW) st k) m (pZ wC bG wD wA) k'=kV n (fun(wG:Int)=>k' .ret (wm wG)) (fun(wJ:Int)(wK:Bool)=>k' (.exit 0) (wo wC bG wD wJ wK)) wC bG wD m wA:=by
 intro m;induction m with
 |zero=>intros;rfl
 |succ m ih=>
  intro wA
  simp only[iter]
  rw[Fc]
  simp only[ih,kV]
noncomputable def wq{R:Type}(n:Nat)(k':Kx R):Kx R:=(cL 0 (gd kU oR n (cM [1,1] mW) k'))
theorem By{R:Type}(n:Nat)(k:Kt R)(a0:List af)(a1:af)(wG:Int):wq n (bt kU [.ro,.fn] [false] true [.tmp 4] [3] [.d (.sl .item) a0,.fq 109 [⟨.item,a1⟩]] k) .ret (wm wG)=
 (k [.d (.i .i64) wG]):=by kernel_rfl
theorem Bz{R:Type}(n:Nat)(k:Kt R)(a0:List af)(a1:af)(wC:List af)(bG:af)(wD:Int)(wJ:Int)(wK:Bool):wq n (bt kU [.ro,.fn] [false] true [.tmp 4] [3] [.d (.sl .item) a0,.fq 109 [⟨.item,a1⟩]] k) (.exit 0) (wo wC bG wD wJ wK)=
 (k [.d (.i .i64) (-1:Int)]):=by kernel_rfl
theorem Fe{R:Type}(n:Nat)(k:Kt R)(a0:List af)(a1:af):aO kU oR n mW [.ro,.fn] [false] true [.tmp 4] [3] [.d (.sl .item) a0,.fq 109 [⟨.item,a1⟩]] k=
 (kV n (fun(wG:Int)=>
 (k [.d (.i .i64) wG])) (fun(wJ:Int)(wK:Bool)=>
 (k [.d (.i .i64) (-1:Int)])) a0 a1 (a0.length:Int) n (0:Int)):=by
 refine Eq.trans (b:=(iter (fun st k=>ev kU oR n (cM [1,0,1,0,0] mW) st k) n (pZ a0 a1 (a0.length:Int) (0:Int)) (wq n (bt kU [.ro,.fn] [false] true [.tmp 4] [3] [.d (.sl .item) a0,.fq 109 [⟨.item,a1⟩]] k)))) (by kernel_rfl) ?_
 simp only[Bw,By,Bz]
theorem BB(a0:List af)(a1:af)(hg:ec a0=true):∃keep rounds,∀{R:Type}(k:Kt R),aO kU keep rounds mW [.ro,.fn] [false] true [.tmp 4] [3] [.d (.sl .item) a0,.fq 109 [⟨.item,a1⟩]] k=k [.d (.i .i64) (Ej a0 a1)]:=by
 have hl:=kq hg
 refine⟨oR,a0.length+1,fun k=> ?_⟩
 rw[Fe]
 refine Eq.trans (l5 (n:=a0.length) (F:=fun m i=>kV (a0.length+1) _ _ a0 a1 (a0.length:Int) m i) (p:=fun j=>oJ (ax (t:= .item) a0 j) a1) (hit:=fun i=>k [.d (.i .i64) i]) (miss:=k [.d (.i .i64) (-1:Int)])
  (fun m j hj=> ?_) (fun m=>by simp only[kV,kn,cond_false]) a0.length 0 (a0.length+1) (by omega) (by omega)) ?_
 ·obtain⟨h1,h0,hw,ht⟩:=idx hj (by omega)
  simp only[kV,h1,h0,hw,ht,Bool.and_self,cond_true]
 ·show _=k [.d (.i .i64) (R8 _)]
  cases fj (fun j=>oJ (ax (t:= .item) a0 j) a1) 0 a0.length<;>rfl
noncomputable def yM:Qt
 | [.d (.sl .item) a0,.fq 109 [⟨.item,a1⟩]]=>some (((fun(x:List af)(_:af)=>ec x) a0 a1),[.d (.i .i64) (Ej a0 a1)])
 |_=>none
noncomputable def Xc:Gm.Spec:=Gm.Spec.of [.ro,.fn] [false] true yM
theorem Ke:Gm.Good Try.prog (102,Xc):=by
 have hl:∀x∈[(109,Kc)],Gm.Good Try.prog x:=aU.2 ⟨CW,gD⟩
 refine⟨⟨aM (aV.env hl) (bd.cz hl) Try.func102 (by kernel_rfl:Try.f102.body=some mW) [3] (by kernel_rfl) ?_,_,Try.func102,by kernel_rfl,of_decide_eq_true (by kernel_rfl)⟩,Gm.Spec.aG _ _ _ _⟩
 intro ds outs h
 unfold yM at h
 split at h
 ·simp only[Option.some.injEq,Prod.mk.injEq] at h;obtain⟨hg,h⟩:=h;cases h;exact BB _ _ hg
 ·cases h
noncomputable def Ff:Qt:=fun ds=>(match yJ ds with | some r=>some r | none=>(match yL ds with | some r=>some r | none=>(match yM ds with | some r=>some r | none=>none)))
noncomputable def sd:Gm.Spec:=Gm.Spec.of [.ro,.fn] [false] true Ff
theorem nU:Gm.Good Try.prog (102,sd):=by
 refine⟨⟨ug (q:=Ff) ?_,yK.1.2⟩,Gm.Spec.aG _ _ _ _⟩
 intro ds outs h
 unfold Ff at h
 cases ha:yJ ds with
 |some r=>
  simp only[ha] at h
  exact⟨yJ,yK.1.1,by rw[ha];exact h⟩
 |none=>
 simp only[ha] at h
 cases hb:yL ds with
 |some r=>
  simp only[hb] at h
  exact⟨yL,Kd.1.1,by rw[hb];exact h⟩
 |none=>
 simp only[hb] at h
 cases hc:yM ds with
 |some r=>
  simp only[hc] at h
  exact⟨yM,Ke.1.1,by rw[hc];exact h⟩
 |none=>
 simp only[hc] at h
 cases h
noncomputable def Kf:Code:=(Try.f105.body).getD .skip
def QO:Nat→Kp:=fF [⟨[0,1],[],[],[]⟩,⟨[4],[],[],[]⟩]
noncomputable def QP:Env:=bd.env [(102,sd),(106,Bm)]
theorem Kg{R:Type}(n:Nat)(k:Kt R)(a0:List af)(a1:af):aO QP QO n Kf [.ro,.fn] [false] true [.tmp 4] [4] [.d (.sl .item) a0,.fq 106 [⟨.item,a1⟩]] k=
 (cond ((fun(x:List af)(_:af)=>ec x) a0 a1)
 (k [.d .bool (decide ((CD a0 a1)≥(0:Int)))])
 none):=by kernel_rfl
theorem Fg(a0:List af)(a1:af)(hg:ec a0=true):∃keep rounds,∀{R:Type}(k:Kt R),aO QP keep rounds Kf [.ro,.fn] [false] true [.tmp 4] [4] [.d (.sl .item) a0,.fq 106 [⟨.item,a1⟩]] k=k [.d .bool (nM a0 a1)]:=by
 refine⟨QO,0,fun k=> ?_⟩
 rw[Kg];simp only[hg,cond_true]
 unfold CD
 rw[Hx];rfl
noncomputable def Xd:Qt
 | [.d (.sl .item) a0,.fq 106 [⟨.item,a1⟩]]=>some (((fun(x:List af)(_:af)=>ec x) a0 a1),[.d .bool (nM a0 a1)])
 |_=>none
noncomputable def Te:Gm.Spec:=Gm.Spec.of [.ro,.fn] [false] true Xd
theorem Oq:Gm.Good Try.prog (105,Te):=by
 have hl:∀x∈[(102,sd),(106,Bm)],Gm.Good Try.prog x:=aU.2 ⟨nU,aU.2 ⟨wc,gD⟩⟩
 refine⟨⟨aM (aV.env hl) (bd.cz hl) Try.func105 (by kernel_rfl:Try.f105.body=some Kf) [4] (by kernel_rfl) ?_,_,Try.func105,by kernel_rfl,of_decide_eq_true (by kernel_rfl)⟩,Gm.Spec.aG _ _ _ _⟩
 intro ds outs h
 unfold Xd at h
 split at h
 ·simp only[Option.some.injEq,Prod.mk.injEq] at h;obtain⟨hg,h⟩:=h;cases h;exact Fg _ _ hg
 ·cases h
noncomputable def yN(y0:List af)(y1:Int)(y2:Int)(y3:List af)(y4:Int):St:=⟨[(1,.c (.one (.pt 1 0))),(16,.c (.one (.ro .item y0))),(17,.c (.one (.v (.int .i64 y1)))),(18,.c (.one (.v (.int .i64 y2))))],[(1,⟨.store,[.ro .item y3,.v (.int .i64 y4)]⟩)],[]⟩
noncomputable def se:St:=⟨[(2,.c (.one (.v (.bool false))))],[],[]⟩
noncomputable def Kh(y0:List af)(y1:Int)(y2:Int)(y3:Bool)(y4:List af)(y5:Int):St:=⟨[(1,.c (.one (.pt 1 0))),(16,.c (.one (.ro .item y0))),(17,.c (.one (.v (.int .i64 y1)))),(18,.c (.one (.v (.int .i64 y2)))),(19,.c (.one (.v (.bool y3))))],[(1,⟨.store,[.ro .item y4,.v (.int .i64 y5)]⟩)],[]⟩
noncomputable def BD:Code:=(Try.f63.body).getD .skip
def Fh:Nat→Kp:=fF [⟨[1],[],[],[]⟩,⟨[1,14],[],[],[]⟩,⟨[2],[],[],[]⟩,⟨[1,16,17,18],[],[],[]⟩,⟨[1,16,17,18,19],[],[],[]⟩,⟨[1,3,4,16,17,18],[],[],[]⟩,⟨[1,3,4,16,17,18,53],[],[],[]⟩,⟨[2],[],[],[]⟩,⟨[1,16,17,18,59],[],[],[]⟩,⟨[2],[],[],[]⟩,⟨[1,16,17,18],[],[],[]⟩,⟨[2],[],[],[]⟩]
noncomputable def wu:Env:=bd.env [(56,tp),(57,W6),(105,Te),(106,Bm)]
noncomputable def pr{R:Type}(n:Nat)(x0:Option R)(x1:Int→Bool→Option R)(wE:List af)(wH:Int)(wF:List af)(wI:Int):Nat→Int→Option R
  |0,_=>none
  |m+1,wB=>
    (cond (decide (wB<wH))
   (cond ((decide ((0:Int)≤wB))&&(decide (wB<(wE.length:Int))))
    (cond (aL (af.order (ax (t:= .item) wE (Int.toNat wB))))
     (cond (!(cS (af.order (ax (t:= .item) wE (Int.toNat wB)))))
      (x0)
      (cond (!(du (af.ver (ax (t:= .item) wE (Int.toNat wB))) (1:Int) (IntKind.wrap .i64 (wI-(1:Int)))))
       (x0)
       (cond (decide (wB>(0:Int)))
        (cond ((decide ((0:Int)≤(IntKind.wrap .i64 (wB-(1:Int)))))&&(decide ((IntKind.wrap .i64 (wB-(1:Int)))<(wF.length:Int))))
         (cond (!(gS (ae.name (af.order (ax (t:= .item) wF (Int.toNat (IntKind.wrap .i64 (wB-(1:Int))))))) (ae.name (af.order (ax (t:= .item) wE (Int.toNat wB))))))
          (x0)
          (cond ((decide ((0:Int)≤wB))&&(decide (wB≤(wF.length:Int))))
           (cond ((fun(x:List af)(_:af)=>ec x) ((wF.take (Int.toNat wB)).drop 0) (ax (t:= .item) wE (Int.toNat wB)))
            (cond (nM ((wF.take (Int.toNat wB)).drop 0) (ax (t:= .item) wE (Int.toNat wB)))
             (x0)
             (pr n x0 x1 wE wH wF wI m (IntKind.wrap .i64 (wB+(1:Int)))))
            none)
           none))
         none)
        (cond ((decide ((0:Int)≤wB))&&(decide (wB≤(wF.length:Int))))
         (cond ((fun(x:List af)(_:af)=>ec x) ((wF.take (Int.toNat wB)).drop 0) (ax (t:= .item) wE (Int.toNat wB)))
          (cond (nM ((wF.take (Int.toNat wB)).drop 0) (ax (t:= .item) wE (Int.toNat wB)))
           (x0)
           (pr n x0 x1 wE wH wF wI m (IntKind.wrap .i64 (wB+(1:Int)))))
          none)
         none))))
     none)
    none)
   (x1 wB (decide (wB<wH))))
theorem Ot{R:Type}(n:Nat)(k':Kx R)(wE:List af)(wH:Int)(wB:Int)(wF:List af)(wI:Int):ev wu Fh n (cM [1,1,0,1,0,0] BD) (yN wE wH wB wF wI) k'=
 (cond (decide (wB<wH))
 (cond ((decide ((0:Int)≤wB))&&(decide (wB<(wE.length:Int))))
 (cond (aL (af.order (ax (t:= .item) wE (Int.toNat wB))))
 (cond (!(cS (af.order (ax (t:= .item) wE (Int.toNat wB)))))
 (k' .ret se)
 (cond (!(du (af.ver (ax (t:= .item) wE (Int.toNat wB))) (1:Int) (IntKind.wrap .i64 (wI-(1:Int)))))
 (k' .ret se)
 (cond (decide (wB>(0:Int)))
 (cond ((decide ((0:Int)≤(IntKind.wrap .i64 (wB-(1:Int)))))&&(decide ((IntKind.wrap .i64 (wB-(1:Int)))<(wF.length:Int))))
 (cond (!(gS (ae.name (af.order (ax (t:= .item) wF (Int.toNat (IntKind.wrap .i64 (wB-(1:Int))))))) (ae.name (af.order (ax (t:= .item) wE (Int.toNat wB))))))
 (k' .ret se)
 (cond ((decide ((0:Int)≤wB))&&(decide (wB≤(wF.length:Int))))
 (cond ((fun(x:List af)(_:af)=>ec x) ((wF.take (Int.toNat wB)).drop 0) (ax (t:= .item) wE (Int.toNat wB)))
 (cond (nM ((wF.take (Int.toNat wB)).drop 0) (ax (t:= .item) wE (Int.toNat wB)))
 (k' .ret se)
 (k' .normal (yN wE wH (IntKind.wrap .i64 (wB+(1:Int))) wF wI)))
 none)
 none))
 none)
 (cond ((decide ((0:Int)≤wB))&&(decide (wB≤(wF.length:Int))))
 (cond ((fun(x:List af)(_:af)=>ec x) ((wF.take (Int.toNat wB)).drop 0) (ax (t:= .item) wE (Int.toNat wB)))
 (cond (nM ((wF.take (Int.toNat wB)).drop 0) (ax (t:= .item) wE (Int.toNat wB)))
 (k' .ret se)
 (k' .normal (yN wE wH (IntKind.wrap .i64 (wB+(1:Int))) wF wI)))
 none)
 none))))
 none)
 none)
 (k' (.exit 0) (Kh wE wH wB (decide (wB<wH)) wF wI))):=by kernel_rfl
theorem Ki{R:Type}(n:Nat)(k':Kx R)(wE:List af)(wH:Int)(wF:List af)(wI:Int):∀(m:Nat)(wB:Int),iter (fun st k=>ev wu Fh n (cM [1,1,0,1,0,0] BD) st k) m (yN wE wH wB wF wI) k'=pr n (k' .ret se) (fun(wL:Int)(wM:Bool)=>k' (.exit 0) (Kh wE wH wL wM wF wI)) wE wH wF wI m wB:=by
 intro m;induction m with
 |zero=>intros;rfl
 |succ m ih=>
  intro wB
  simp only[iter]
  rw[Ot]
  simp only[ih,pr]
noncomputable def Kj{R:Type}(n:Nat)(k':Kx R):Kx R:=(cL 0 (gd wu Fh n (cM [1,1,1] BD) k'))
theorem Kk{R:Type}(n:Nat)(k:Kt R)(a0:ai):Kj n (bt wu [.ro] [false] true [.tmp 2] [4] [.d .store a0] k) .ret se=
 (k [.d .bool false]):=by kernel_rfl
theorem Km{R:Type}(n:Nat)(k:Kt R)(a0:ai)(wE:List af)(wH:Int)(wF:List af)(wI:Int)(wL:Int)(wM:Bool):Kj n (bt wu [.ro] [false] true [.tmp 2] [4] [.d .store a0] k) (.exit 0) (Kh wE wH wL wM wF wI)=
 (k [.d .bool true]):=by kernel_rfl
theorem Ou{R:Type}(n:Nat)(k:Kt R)(a0:ai):aO wu Fh n BD [.ro] [false] true [.tmp 2] [4] [.d .store a0] k=
 (cond (decide (((ai.items a0).length:Int)>(6:Int)))
 (k [.d .bool false])
 (cond (!(du (ai.next a0) (1:Int) (100000:Int)))
 (k [.d .bool false])
 (pr n (k [.d .bool false]) (fun(wL:Int)(wM:Bool)=>
 (k [.d .bool true])) (ai.items a0) ((ai.items a0).length:Int) (ai.items a0) (ai.next a0) n (0:Int)))):=by
  refine Eq.trans (b:=(cond (decide (((ai.items a0).length:Int)>(6:Int)))
  (k [.d .bool false])
  (cond (!(du (ai.next a0) (1:Int) (100000:Int)))
   (k [.d .bool false])
   (iter (fun st k=>ev wu Fh n (cM [1,1,0,1,0,0] BD) st k) n (yN (ai.items a0) ((ai.items a0).length:Int) (0:Int) (ai.items a0) (ai.next a0)) (Kj n (bt wu [.ro] [false] true [.tmp 2] [4] [.d .store a0] k)))))) (by kernel_rfl) ?_
  simp only[Ki,Kk,Km]
theorem Kn(a0:ai)(hg:bD a0=true):∃keep rounds,∀{R:Type}(k:Kt R),aO wu keep rounds BD [.ro] [false] true [.tmp 2] [4] [.d .store a0] k=k [.d .bool (cT a0)]:=by
 simp only[bD,Bool.and_eq_true] at hg
 have hl:=dU hg.1
 refine⟨Fh,a0.items.length+1,fun {R} k=> ?_⟩
 rw[Ou]
 unfold cT
 cases hb:du a0.next 1 100000
 ·cases decide ((a0.items.length:Int)>6)<;>rfl
 rw[gh] at hb
 by_cases h6:(a0.items.length:Int)>6
 ·rw[decide_eq_true h6,decide_eq_false (show ¬((a0.items.length:Int)≤6) by omega)];rfl
 rw[decide_eq_false h6,decide_eq_true (show (a0.items.length:Int)≤6 by omega)]
 simp only[Bool.not_true,cond_false,Bool.true_and]
 refine Eq.trans (eW (n:=a0.items.length) (F:=fun m i=>pr (a0.items.length+1) _ _ a0.items (a0.items.length:Int) a0.items a0.next m i) (p:=ui a0.items a0.next) (good:=k [.d .bool true]) (bad:=k [.d .bool false])
  (fun m j hj=> ?_) (fun m=>by simp only[pr,kn,cond_false]) (a0.items.length) 0 (a0.items.length+1) (by omega) (by omega)) ?_
 ·obtain⟨h1,h0,hw,ht⟩:=idx hj (by omega)
  have hx:=mM (t:= .item) hg.1 hj
  simp only[bn,Bool.and_eq_true] at hx
  have hle:decide ((j:Int)≤(a0.items.length:Int))=true:=decide_eq_true (by omega)
  have hgl:ec (a0.items.take j)=true:=kr (by rw[List.length_take];omega)
  simp only[pr,h1,h0,hw,ht,hx.1,hle,hgl,List.drop_zero,cC (x:=a0.next-1) (by omega) (by omega),Bool.and_self,cond_true]
  unfold ui
  by_cases hz:(j:Int)>0
  ·obtain⟨h2,h3,_,h5⟩:=idx (show j-1<a0.items.length by omega) (by omega)
   simp only[hz,decide_true,cond_true,Hw hj (by omega) (by omega),h2,h3,h5,Bool.and_self]
   cases cS (ax (t:= .item) a0.items j).order<;>cases du (ax (t:= .item) a0.items j).ver 1 (a0.next-1)<;>cases gS (ax (t:= .item) a0.items (j-1)).order.name (ax (t:= .item) a0.items j).order.name<;>cases nM (a0.items.take j) (ax (t:= .item) a0.items j)<;>rfl
  ·simp only[hz,decide_false,cond_false]
   cases cS (ax (t:= .item) a0.items j).order<;>cases du (ax (t:= .item) a0.items j).ver 1 (a0.next-1)<;>cases nM (a0.items.take j) (ax (t:= .item) a0.items j)<;>rfl
 ·cases ic (ui a0.items a0.next) 0 a0.items.length<;>rfl
noncomputable def sf:Qt
 | [.d .store a0]=>some ((bD a0),[.d .bool (cT a0)])
 |_=>none
noncomputable def Xe:Gm.Spec:=Gm.Spec.of [.ro] [false] true sf
theorem Ko:Gm.Good Try.prog (63,Xe):=by
 have hl:∀x∈[(56,tp),(57,W6),(105,Te),(106,Bm)],Gm.Good Try.prog x:=aU.2 ⟨jY,aU.2 ⟨J5,aU.2 ⟨Oq,aU.2 ⟨wc,gD⟩⟩⟩⟩
 refine⟨⟨aM (aV.env hl) (bd.cz hl) Try.func63 (by kernel_rfl:Try.f63.body=some BD) [4] (by kernel_rfl) ?_,_,Try.func63,by kernel_rfl,of_decide_eq_true (by kernel_rfl)⟩,Gm.Spec.aG _ _ _ _⟩
 intro ds outs h
 unfold sf at h
 split at h
 ·simp only[Option.some.injEq,Prod.mk.injEq] at h;obtain⟨hg,h⟩:=h;cases h;exact Kn _ hg
 ·cases h
end Go.Proofs.Ytnbehmbjoanfoaa
namespace Go.Proofs.Ytnbehmbjoanfoaa.Fl
open Go Go.Gm
def bd:yg:={ code:=[(2,(.i .i64)),(3,(.i .i64)),(4,.bool),(5,(.i .u8)),(6,(.i .u8)),(9,.str),(10,.str),(11,.str),(12,(.i .u64)),(21,(.i .i32)),(33,(.sl (.i .u8))),(35,(.sl .ed)),(39,(.sl (.sl .ed))),(40,(.sl .aw)),(42,.aD),(43,(.sl .note)),(45,.jJ),(48,(.sl .str)),(50,.ed),(61,(.sl .ed)),(80,(.sl .aw)),(81,.aD),(82,(.sl .note)),(84,.jJ),(86,.ed),(122,(.sl (.i .i64))),(132,.aw),(137,.note),(139,.cur),(163,(.i .u64)),(165,.aw),(167,.note),(183,(.i .u32)),(184,(.i .u8)),(185,(.i .u8)),(188,(.i .i32)),(189,(.i .i32))],eqs:=[(42,[(.i .i64),(.i .i64),(.i .i64),(.i .i64)]),(132,[.str,(.i .i64),(.i .i64)]),(137,[.str,.str])],pL:=[(42,[(0,3),(1,3),(2,3),(3,3)]),(45,[(0,9),(1,9),(2,3),(3,3),(4,40),(5,42),(9,43)]),(50,[(0,45),(10,3)]),(81,[(0,3),(1,3),(2,3),(3,3)]),(84,[(0,9),(1,9),(2,3),(3,3),(4,80),(5,81),(9,82)]),(86,[(0,84),(10,3)]),(132,[(0,9),(1,3),(2,3)]),(137,[(0,9),(1,9)]),(139,[(0,33),(1,3),(2,3)]),(165,[(0,9),(1,3),(2,3)]),(167,[(0,9),(1,9)])] }
theorem Sq:bl (bd.env []) Try.prog 2 (.i .i64):=(by kernel_rfl:Try.prog.underlying 2=some (.int .i64))
theorem Sr:bl (bd.env []) Try.prog 3 (.i .i64):=(by kernel_rfl:Try.prog.underlying 3=some (.int .i64))
theorem Ss:bl (bd.env []) Try.prog 4 .bool:=(by kernel_rfl:Try.prog.underlying 4=some .bool)
theorem Sw:bl (bd.env []) Try.prog 5 (.i .u8):=(by kernel_rfl:Try.prog.underlying 5=some (.int .u8))
theorem Sx:bl (bd.env []) Try.prog 6 (.i .u8):=(by kernel_rfl:Try.prog.underlying 6=some (.int .u8))
theorem Sy:bl (bd.env []) Try.prog 9 .str:=(by kernel_rfl:Try.prog.underlying 9=some .string)
theorem H0:bl (bd.env []) Try.prog 10 .str:=(by kernel_rfl:Try.prog.underlying 10=some .string)
theorem H2:bl (bd.env []) Try.prog 11 .str:=(by kernel_rfl:Try.prog.underlying 11=some .string)
theorem H3:bl (bd.env []) Try.prog 12 (.i .u64):=(by kernel_rfl:Try.prog.underlying 12=some (.int .u64))
theorem H4:bl (bd.env []) Try.prog 21 (.i .i32):=(by kernel_rfl:Try.prog.underlying 21=some (.int .i32))
theorem H5:bl (bd.env []) Try.prog 33 (.sl (.i .u8)):=⟨5,by kernel_rfl,by kernel_rfl⟩
theorem H6:bl (bd.env []) Try.prog 35 (.sl .ed):=⟨50,by kernel_rfl,by kernel_rfl⟩
theorem H7:bl (bd.env []) Try.prog 39 (.sl (.sl .ed)):=⟨35,by kernel_rfl,by kernel_rfl⟩
theorem H8:bl (bd.env []) Try.prog 40 (.sl .aw):=⟨132,by kernel_rfl,by kernel_rfl⟩
theorem H9:bl (bd.env []) Try.prog 42 .aD:=⟨_,Try.underlying42⟩
theorem Ia:bl (bd.env []) Try.prog 43 (.sl .note):=⟨137,by kernel_rfl,by kernel_rfl⟩
theorem Ib:bl (bd.env []) Try.prog 45 .jJ:=⟨_,Try.underlying45⟩
theorem Ic:bl (bd.env []) Try.prog 48 (.sl .str):=⟨9,by kernel_rfl,by kernel_rfl⟩
theorem Ie:bl (bd.env []) Try.prog 50 .ed:=⟨_,Try.underlying50⟩
theorem Ig:bl (bd.env []) Try.prog 61 (.sl .ed):=⟨86,by kernel_rfl,by kernel_rfl⟩
theorem Ih:bl (bd.env []) Try.prog 80 (.sl .aw):=⟨165,by kernel_rfl,by kernel_rfl⟩
theorem Ii:bl (bd.env []) Try.prog 81 .aD:=⟨_,Try.underlying81⟩
theorem Ij:bl (bd.env []) Try.prog 82 (.sl .note):=⟨167,by kernel_rfl,by kernel_rfl⟩
theorem Ik:bl (bd.env []) Try.prog 84 .jJ:=⟨_,Try.underlying84⟩
theorem Il:bl (bd.env []) Try.prog 86 .ed:=⟨_,Try.underlying86⟩
theorem AH:bl (bd.env []) Try.prog 122 (.sl (.i .i64)):=⟨3,by kernel_rfl,by kernel_rfl⟩
theorem AI:bl (bd.env []) Try.prog 132 .aw:=⟨_,Try.underlying132⟩
theorem AJ:bl (bd.env []) Try.prog 137 .note:=⟨_,Try.underlying137⟩
theorem AK:bl (bd.env []) Try.prog 139 .cur:=⟨_,Try.underlying139⟩
theorem AL:bl (bd.env []) Try.prog 163 (.i .u64):=(by kernel_rfl:Try.prog.underlying 163=some (.int .u64))
theorem AN:bl (bd.env []) Try.prog 165 .aw:=⟨_,Try.underlying165⟩
theorem AO:bl (bd.env []) Try.prog 167 .note:=⟨_,Try.underlying167⟩
theorem AP:bl (bd.env []) Try.prog 183 (.i .u32):=(by kernel_rfl:Try.prog.underlying 183=some (.int .u32))
theorem AQ:bl (bd.env []) Try.prog 184 (.i .u8):=(by kernel_rfl:Try.prog.underlying 184=some (.int .u8))
theorem AR:bl (bd.env []) Try.prog 185 (.i .u8):=(by kernel_rfl:Try.prog.underlying 185=some (.int .u8))
theorem AS:bl (bd.env []) Try.prog 188 (.i .i32):=(by kernel_rfl:Try.prog.underlying 188=some (.int .i32))
theorem AT:bl (bd.env []) Try.prog 189 (.i .i32):=(by kernel_rfl:Try.prog.underlying 189=some (.int .i32))
theorem Im:∃fs:Array Field,Try.prog.underlying 42=some (.struct fs)∧[(0,3),(1,3),(2,3),(3,3)]=fs.toList.map (fun f=>(f.offset,f.type))∧(∀ y∈([(0,3),(1,3),(2,3),(3,3)]:List (Nat×Nat)),(ak bd.code y.2).isSome)∧(fs.toList.mapM (fun f=>(Try.prog.info? f.type).map fun i=>(f.offset,i.size))).isSome:=
 ⟨_,Try.underlying42,by kernel_rfl,List.all_eq_true.1 (by kernel_rfl),by kernel_rfl⟩
theorem Io:∃fs:Array Field,Try.prog.underlying 45=some (.struct fs)∧[(0,9),(1,9),(2,3),(3,3),(4,40),(5,42),(9,43)]=fs.toList.map (fun f=>(f.offset,f.type))∧(∀ y∈([(0,9),(1,9),(2,3),(3,3),(4,40),(5,42),(9,43)]:List (Nat×Nat)),(ak bd.code y.2).isSome)∧(fs.toList.mapM (fun f=>(Try.prog.info? f.type).map fun i=>(f.offset,i.size))).isSome:=
 ⟨_,Try.underlying45,by kernel_rfl,List.all_eq_true.1 (by kernel_rfl),by kernel_rfl⟩
theorem Ip:∃fs:Array Field,Try.prog.underlying 50=some (.struct fs)∧[(0,45),(10,3)]=fs.toList.map (fun f=>(f.offset,f.type))∧(∀ y∈([(0,45),(10,3)]:List (Nat×Nat)),(ak bd.code y.2).isSome)∧(fs.toList.mapM (fun f=>(Try.prog.info? f.type).map fun i=>(f.offset,i.size))).isSome:=
 ⟨_,Try.underlying50,by kernel_rfl,List.all_eq_true.1 (by kernel_rfl),by kernel_rfl⟩
theorem Iq:∃fs:Array Field,Try.prog.underlying 81=some (.struct fs)∧[(0,3),(1,3),(2,3),(3,3)]=fs.toList.map (fun f=>(f.offset,f.type))∧(∀ y∈([(0,3),(1,3),(2,3),(3,3)]:List (Nat×Nat)),(ak bd.code y.2).isSome)∧(fs.toList.mapM (fun f=>(Try.prog.info? f.type).map fun i=>(f.offset,i.size))).isSome:=
 ⟨_,Try.underlying81,by kernel_rfl,List.all_eq_true.1 (by kernel_rfl),by kernel_rfl⟩
theorem Ir:∃fs:Array Field,Try.prog.underlying 84=some (.struct fs)∧[(0,9),(1,9),(2,3),(3,3),(4,80),(5,81),(9,82)]=fs.toList.map (fun f=>(f.offset,f.type))∧(∀ y∈([(0,9),(1,9),(2,3),(3,3),(4,80),(5,81),(9,82)]:List (Nat×Nat)),(ak bd.code y.2).isSome)∧(fs.toList.mapM (fun f=>(Try.prog.info? f.type).map fun i=>(f.offset,i.size))).isSome:=
 ⟨_,Try.underlying84,by kernel_rfl,List.all_eq_true.1 (by kernel_rfl),by kernel_rfl⟩
theorem Is:∃fs:Array Field,Try.prog.underlying 86=some (.struct fs)∧[(0,84),(10,3)]=fs.toList.map (fun f=>(f.offset,f.type))∧(∀ y∈([(0,84),(10,3)]:List (Nat×Nat)),(ak bd.code y.2).isSome)∧(fs.toList.mapM (fun f=>(Try.prog.info? f.type).map fun i=>(f.offset,i.size))).isSome:=
 ⟨_,Try.underlying86,by kernel_rfl,List.all_eq_true.1 (by kernel_rfl),by kernel_rfl⟩
theorem AU:∃fs:Array Field,Try.prog.underlying 132=some (.struct fs)∧[(0,9),(1,3),(2,3)]=fs.toList.map (fun f=>(f.offset,f.type))∧(∀ y∈([(0,9),(1,3),(2,3)]:List (Nat×Nat)),(ak bd.code y.2).isSome)∧(fs.toList.mapM (fun f=>(Try.prog.info? f.type).map fun i=>(f.offset,i.size))).isSome:=
 ⟨_,Try.underlying132,by kernel_rfl,List.all_eq_true.1 (by kernel_rfl),by kernel_rfl⟩
theorem AV:∃fs:Array Field,Try.prog.underlying 137=some (.struct fs)∧[(0,9),(1,9)]=fs.toList.map (fun f=>(f.offset,f.type))∧(∀ y∈([(0,9),(1,9)]:List (Nat×Nat)),(ak bd.code y.2).isSome)∧(fs.toList.mapM (fun f=>(Try.prog.info? f.type).map fun i=>(f.offset,i.size))).isSome:=
 ⟨_,Try.underlying137,by kernel_rfl,List.all_eq_true.1 (by kernel_rfl),by kernel_rfl⟩
theorem AW:∃fs:Array Field,Try.prog.underlying 139=some (.struct fs)∧[(0,33),(1,3),(2,3)]=fs.toList.map (fun f=>(f.offset,f.type))∧(∀ y∈([(0,33),(1,3),(2,3)]:List (Nat×Nat)),(ak bd.code y.2).isSome)∧(fs.toList.mapM (fun f=>(Try.prog.info? f.type).map fun i=>(f.offset,i.size))).isSome:=
 ⟨_,Try.underlying139,by kernel_rfl,List.all_eq_true.1 (by kernel_rfl),by kernel_rfl⟩
theorem AX:∃fs:Array Field,Try.prog.underlying 165=some (.struct fs)∧[(0,9),(1,3),(2,3)]=fs.toList.map (fun f=>(f.offset,f.type))∧(∀ y∈([(0,9),(1,3),(2,3)]:List (Nat×Nat)),(ak bd.code y.2).isSome)∧(fs.toList.mapM (fun f=>(Try.prog.info? f.type).map fun i=>(f.offset,i.size))).isSome:=
 ⟨_,Try.underlying165,by kernel_rfl,List.all_eq_true.1 (by kernel_rfl),by kernel_rfl⟩
theorem AY:∃fs:Array Field,Try.prog.underlying 167=some (.struct fs)∧[(0,9),(1,9)]=fs.toList.map (fun f=>(f.offset,f.type))∧(∀ y∈([(0,9),(1,9)]:List (Nat×Nat)),(ak bd.code y.2).isSome)∧(fs.toList.mapM (fun f=>(Try.prog.info? f.type).map fun i=>(f.offset,i.size))).isSome:=
 ⟨_,Try.underlying167,by kernel_rfl,List.all_eq_true.1 (by kernel_rfl),by kernel_rfl⟩
theorem aV:bd.Ok Try.prog:={
 info:=rE (by kernel_rfl)
 pN:=aU.2 ⟨Sq,aU.2 ⟨Sr,aU.2 ⟨Ss,aU.2 ⟨Sw,aU.2 ⟨Sx,aU.2 ⟨Sy,aU.2 ⟨H0,aU.2 ⟨H2,aU.2 ⟨H3,aU.2 ⟨H4,aU.2 ⟨H5,aU.2 ⟨H6,aU.2 ⟨H7,aU.2 ⟨H8,aU.2 ⟨H9,aU.2 ⟨Ia,aU.2 ⟨Ib,aU.2 ⟨Ic,aU.2 ⟨Ie,aU.2 ⟨Ig,aU.2 ⟨Ih,aU.2 ⟨Ii,aU.2 ⟨Ij,aU.2 ⟨Ik,aU.2 ⟨Il,aU.2 ⟨AH,aU.2 ⟨AI,aU.2 ⟨AJ,aU.2 ⟨AK,aU.2 ⟨AL,aU.2 ⟨AN,aU.2 ⟨AO,aU.2 ⟨AP,aU.2 ⟨AQ,aU.2 ⟨AR,aU.2 ⟨AS,aU.2 ⟨AT,gD⟩⟩⟩⟩⟩⟩⟩⟩⟩⟩⟩⟩⟩⟩⟩⟩⟩⟩⟩⟩⟩⟩⟩⟩⟩⟩⟩⟩⟩⟩⟩⟩⟩⟩⟩⟩⟩
 pL:=aU.2 ⟨Im,aU.2 ⟨Io,aU.2 ⟨Ip,aU.2 ⟨Iq,aU.2 ⟨Ir,aU.2 ⟨Is,aU.2 ⟨AU,aU.2 ⟨AV,aU.2 ⟨AW,aU.2 ⟨AX,aU.2 ⟨AY,gD⟩⟩⟩⟩⟩⟩⟩⟩⟩⟩⟩
 Uk:=aU.2 ⟨fun h=>by first | (cases h;done) | (simp;done),aU.2 ⟨fun h=>by first | (cases h;done) | (simp;done),aU.2 ⟨fun h=>by first | (cases h;done) | (simp;done),aU.2 ⟨fun h=>by first | (cases h;done) | (simp;done),aU.2 ⟨fun h=>by first | (cases h;done) | (simp;done),aU.2 ⟨fun h=>by first | (cases h;done) | (simp;done),aU.2 ⟨fun h=>by first | (cases h;done) | (simp;done),aU.2 ⟨fun h=>by first | (cases h;done) | (simp;done),aU.2 ⟨fun h=>by first | (cases h;done) | (simp;done),aU.2 ⟨fun h=>by first | (cases h;done) | (simp;done),aU.2 ⟨fun h=>by first | (cases h;done) | (simp;done),aU.2 ⟨fun h=>by first | (cases h;done) | (simp;done),aU.2 ⟨fun h=>by first | (cases h;done) | (simp;done),aU.2 ⟨fun h=>by first | (cases h;done) | (simp;done),aU.2 ⟨fun _=>by simp[bd],aU.2 ⟨fun h=>by first | (cases h;done) | (simp;done),aU.2 ⟨fun _=>by simp[bd],aU.2 ⟨fun h=>by first | (cases h;done) | (simp;done),aU.2 ⟨fun _=>by simp[bd],aU.2 ⟨fun h=>by first | (cases h;done) | (simp;done),aU.2 ⟨fun h=>by first | (cases h;done) | (simp;done),aU.2 ⟨fun _=>by simp[bd],aU.2 ⟨fun h=>by first | (cases h;done) | (simp;done),aU.2 ⟨fun _=>by simp[bd],aU.2 ⟨fun _=>by simp[bd],aU.2 ⟨fun h=>by first | (cases h;done) | (simp;done),aU.2 ⟨fun _=>by simp[bd],aU.2 ⟨fun _=>by simp[bd],aU.2 ⟨fun _=>by simp[bd],aU.2 ⟨fun h=>by first | (cases h;done) | (simp;done),aU.2 ⟨fun _=>by simp[bd],aU.2 ⟨fun _=>by simp[bd],aU.2 ⟨fun h=>by first | (cases h;done) | (simp;done),aU.2 ⟨fun h=>by first | (cases h;done) | (simp;done),aU.2 ⟨fun h=>by first | (cases h;done) | (simp;done),aU.2 ⟨fun h=>by first | (cases h;done) | (simp;done),aU.2 ⟨fun h=>by first | (cases h;done) | (simp;done),gD⟩⟩⟩⟩⟩⟩⟩⟩⟩⟩⟩⟩⟩⟩⟩⟩⟩⟩⟩⟩⟩⟩⟩⟩⟩⟩⟩⟩⟩⟩⟩⟩⟩⟩⟩⟩⟩
 eqs:=aU.2 ⟨ib (by kernel_rfl) (by kernel_rfl) (by kernel_rfl) (by kernel_rfl),aU.2 ⟨ib (by kernel_rfl) (by kernel_rfl) (by kernel_rfl) (by kernel_rfl),aU.2 ⟨ib (by kernel_rfl) (by kernel_rfl) (by kernel_rfl) (by kernel_rfl),gD⟩⟩⟩
 ord:=by kernel_rfl }
end Go.Proofs.Ytnbehmbjoanfoaa.Fl
namespace Go.Proofs.Ytnbehmbjoanfoaa.Fl
open Go Go.Gm
noncomputable def Kq:Code:=(Try.f108.body).getD .skip
def QQ:Nat→Kp:=fF [⟨[1,2],[],[],[]⟩,⟨[3],[],[],[]⟩]
noncomputable def QR:Env:=bd.env []
theorem Kr{R:Type}(n:Nat)(k:Kt R)(a0:cr)(a1:cr):aO QR QQ n Kq [.ro,.sG] [false] true [.tmp 3] [4] [.d .ed a0,.d .ed a1] k=
 (k [.d .bool (fX (j4.name (cr.order a0)) (j4.name (cr.order a1)))]):=by kernel_rfl
theorem Fi(a0:cr)(a1:cr):∃keep rounds,∀{R:Type}(k:Kt R),aO QR keep rounds Kq [.ro,.sG] [false] true [.tmp 3] [4] [.d .ed a0,.d .ed a1] k=k [.d .bool (mP a0 a1)]:=by
 exact⟨QQ,0,fun k=>Kr 0 k a0 a1⟩
noncomputable def Xf:Qt
 | [.d .ed a0,.d .ed a1]=>some (true,[.d .bool (mP a0 a1)])
 |_=>none
noncomputable def Ks:Gm.Spec:=Gm.Spec.of [.ro,.sG] [false] true Xf
theorem CX:Gm.Good Try.prog (108,Ks):=by
 have hl:∀x∈([]:List (Nat×Gm.Spec)),Gm.Good Try.prog x:=fun _ h=>by cases h
 refine⟨⟨aM (aV.env hl) (bd.cz hl) Try.func108 (by kernel_rfl:Try.f108.body=some Kq) [4] (by kernel_rfl) ?_,_,Try.func108,by kernel_rfl,of_decide_eq_true (by kernel_rfl)⟩,Gm.Spec.aG _ _ _ _⟩
 intro ds outs h
 unfold Xf at h
 split at h
 ·cases h;exact Fi _ _
 ·cases h
noncomputable def wv(y0:List cr)(y1:cr)(y2:Int)(y3:Int):St:=⟨[(0,.c (.one (.ro .ed y0))),(1,.c (.one (.j5 108 [⟨.ed,y1⟩]))),(7,.c (.one (.v (.int .i64 y2)))),(8,.c (.one (.v (.int .i64 y3))))],[],[]⟩
noncomputable def BE(y0:Int):St:=⟨[(4,.c (.one (.v (.int .i64 y0))))],[],[]⟩
noncomputable def BF(y0:List cr)(y1:cr)(y2:Int)(y3:Int)(y4:Bool):St:=⟨[(0,.c (.one (.ro .ed y0))),(1,.c (.one (.j5 108 [⟨.ed,y1⟩]))),(7,.c (.one (.v (.int .i64 y2)))),(8,.c (.one (.v (.int .i64 y3)))),(9,.c (.one (.v (.bool y4))))],[],[]⟩
noncomputable def sg:Code:=(Try.f102.body).getD .skip
def uH:Nat→Kp:=fF [⟨[0,1],[],[],[]⟩,⟨[0,1,7,8],[],[],[]⟩,⟨[0,1,7,8,9],[],[],[]⟩,⟨[0,1,5,7,8],[],[],[]⟩,⟨[0,1,5,7,8,16],[],[],[]⟩,⟨[4],[],[],[]⟩,⟨[0,1,7,8],[],[],[]⟩,⟨[4],[],[],[]⟩]
noncomputable def nV:Env:=bd.env [(108,Ks)]
noncomputable def mX{R:Type}(n:Nat)(x0:Int→Option R)(x1:Int→Bool→Option R)(wG:List cr)(bG:cr)(wH:Int):Nat→Int→Option R
  |0,_=>none
  |m+1,wC=>
    (cond (decide (wC<wH))
   (cond ((decide ((0:Int)≤wC))&&(decide (wC<(wG.length:Int))))
    (cond (mP (ax (t:= .ed) wG (Int.toNat wC)) bG)
     (x0 wC)
     (mX n x0 x1 wG bG wH m (IntKind.wrap .i64 (wC+(1:Int)))))
    none)
   (x1 wC (decide (wC<wH))))
theorem Ku{R:Type}(n:Nat)(k':Kx R)(wG:List cr)(bG:cr)(wH:Int)(wC:Int):ev nV uH n (cM [1,0,1,0,0] sg) (wv wG bG wH wC) k'=
 (cond (decide (wC<wH))
 (cond ((decide ((0:Int)≤wC))&&(decide (wC<(wG.length:Int))))
 (cond (mP (ax (t:= .ed) wG (Int.toNat wC)) bG)
 (k' .ret (BE wC))
 (k' .normal (wv wG bG wH (IntKind.wrap .i64 (wC+(1:Int))))))
 none)
 (k' (.exit 0) (BF wG bG wH wC (decide (wC<wH))))):=by kernel_rfl
theorem Fj{R:Type}(n:Nat)(k':Kx R)(wG:List cr)(bG:cr)(wH:Int):∀(m:Nat)(wC:Int),iter (fun st k=>ev nV uH n (cM [1,0,1,0,0] sg) st k) m (wv wG bG wH wC) k'=mX n (fun(wI:Int)=>k' .ret (BE wI)) (fun(wJ:Int)(wK:Bool)=>k' (.exit 0) (BF wG bG wH wJ wK)) wG bG wH m wC:=by
 intro m;induction m with
 |zero=>intros;rfl
 |succ m ih=>
  intro wC
  simp only[iter]
  rw[Ku]
  simp only[ih,mX]
noncomputable def BG{R:Type}(n:Nat)(k':Kx R):Kx R:=(cL 0 (gd nV uH n (cM [1,1] sg) k'))
theorem Fk{R:Type}(n:Nat)(k:Kt R)(a0:List cr)(a1:cr)(wI:Int):BG n (bt nV [.ro,.fn] [false] true [.tmp 4] [3] [.d (.sl .ed) a0,.fq 108 [⟨.ed,a1⟩]] k) .ret (BE wI)=
 (k [.d (.i .i64) wI]):=by kernel_rfl
theorem Fm{R:Type}(n:Nat)(k:Kt R)(a0:List cr)(a1:cr)(wG:List cr)(bG:cr)(wH:Int)(wJ:Int)(wK:Bool):BG n (bt nV [.ro,.fn] [false] true [.tmp 4] [3] [.d (.sl .ed) a0,.fq 108 [⟨.ed,a1⟩]] k) (.exit 0) (BF wG bG wH wJ wK)=
 (k [.d (.i .i64) (-1:Int)]):=by kernel_rfl
theorem Kv{R:Type}(n:Nat)(k:Kt R)(a0:List cr)(a1:cr):aO nV uH n sg [.ro,.fn] [false] true [.tmp 4] [3] [.d (.sl .ed) a0,.fq 108 [⟨.ed,a1⟩]] k=
 (mX n (fun(wI:Int)=>
 (k [.d (.i .i64) wI])) (fun(wJ:Int)(wK:Bool)=>
 (k [.d (.i .i64) (-1:Int)])) a0 a1 (a0.length:Int) n (0:Int)):=by
 refine Eq.trans (b:=(iter (fun st k=>ev nV uH n (cM [1,0,1,0,0] sg) st k) n (wv a0 a1 (a0.length:Int) (0:Int)) (BG n (bt nV [.ro,.fn] [false] true [.tmp 4] [3] [.d (.sl .ed) a0,.fq 108 [⟨.ed,a1⟩]] k)))) (by kernel_rfl) ?_
 simp only[Fj,Fk,Fm]
theorem Fo(a0:List cr)(a1:cr)(hg:ec a0=true):∃keep rounds,∀{R:Type}(k:Kt R),aO nV keep rounds sg [.ro,.fn] [false] true [.tmp 4] [3] [.d (.sl .ed) a0,.fq 108 [⟨.ed,a1⟩]] k=k [.d (.i .i64) (vO a0 a1)]:=by
 have hl:=kq hg
 refine⟨uH,a0.length+1,fun k=> ?_⟩
 rw[Kv]
 refine Eq.trans (l5 (n:=a0.length) (F:=fun m i=>mX (a0.length+1) _ _ a0 a1 (a0.length:Int) m i) (p:=fun j=>mP (ax (t:= .ed) a0 j) a1) (hit:=fun i=>k [.d (.i .i64) i]) (miss:=k [.d (.i .i64) (-1:Int)])
  (fun m j hj=> ?_) (fun m=>by simp only[mX,kn,cond_false]) a0.length 0 (a0.length+1) (by omega) (by omega)) ?_
 ·obtain⟨h1,h0,hw,ht⟩:=idx hj (by omega)
  simp only[mX,h1,h0,hw,ht,Bool.and_self,cond_true]
 ·show _=k [.d (.i .i64) (R8 _)]
  cases fj (fun j=>mP (ax (t:= .ed) a0 j) a1) 0 a0.length<;>rfl
noncomputable def Ff:Qt
 | [.d (.sl .ed) a0,.fq 108 [⟨.ed,a1⟩]]=>some (((fun(x:List cr)(_:cr)=>ec x) a0 a1),[.d (.i .i64) (vO a0 a1)])
 |_=>none
noncomputable def sd:Gm.Spec:=Gm.Spec.of [.ro,.fn] [false] true Ff
theorem nU:Gm.Good Try.prog (102,sd):=by
 have hl:∀x∈[(108,Ks)],Gm.Good Try.prog x:=aU.2 ⟨CX,gD⟩
 refine⟨⟨aM (aV.env hl) (bd.cz hl) Try.func102 (by kernel_rfl:Try.f102.body=some sg) [3] (by kernel_rfl) ?_,_,Try.func102,by kernel_rfl,of_decide_eq_true (by kernel_rfl)⟩,Gm.Spec.aG _ _ _ _⟩
 intro ds outs h
 unfold Ff at h
 split at h
 ·simp only[Option.some.injEq,Prod.mk.injEq] at h;obtain⟨hg,h⟩:=h;cases h;exact Fo _ _ hg
 ·cases h
noncomputable def si(y0:cr)(y1:Int)(y2:Int)(y3:List cr):St:=⟨[(0,.c (.one (.h 0 0 0 []))),(1,.c (.one (.j5 108 [⟨.ed,y0⟩]))),(5,.c (.one (.v (.int .i64 y1)))),(6,.c (.one (.v (.int .i64 y2))))],[],[(0,.live ⟨.ed,.deep,0,[],y3⟩)]⟩
noncomputable def BH(y0:cr)(y1:Int)(y2:Int)(y3:Bool)(y4:List cr):St:=⟨[(0,.c (.one (.h 0 0 0 []))),(1,.c (.one (.j5 108 [⟨.ed,y0⟩]))),(5,.c (.one (.v (.int .i64 y1)))),(6,.c (.one (.v (.int .i64 y2)))),(19,.c (.one (.v (.bool y3))))],[],[(0,.live ⟨.ed,.deep,0,[],y4⟩)]⟩
noncomputable def sj:Code:=(Try.f107.body).getD .skip
def uI:Nat→Kp:=fF [⟨[0,1],[],[],[]⟩,⟨[0,1,5],[],[],[]⟩,⟨[0,1,5,12],[],[],[]⟩,⟨[4],[],[],[]⟩,⟨[0,1,5,6],[],[],[]⟩,⟨[0,1,5,6,19],[],[],[]⟩,⟨[0,1,5,6],[],[],[]⟩,⟨[0,1,5,6,7],[],[],[]⟩,⟨[0,1,5,6,7,29],[],[],[]⟩,⟨[0,1,5,6],[],[],[]⟩,⟨[0,1,5,6],[],[],[]⟩,⟨[0,5],[],[],[]⟩,⟨[4],[],[],[]⟩]
noncomputable def pv:Env:=bd.env [(102,sd),(108,Ks)]
noncomputable def kW{R:Type}(n:Nat)(x0:Int→Int→Bool→(List cr)→Option R)(bG:cr):Nat→Int→Int→(List cr)→Option R
  |0,_,_,_=>none
  |m+1,wE,wA,wB=>
    (cond (decide (wA<(wB.length:Int)))
   (cond ((decide ((0:Int)≤wA))&&(decide (wA<(wB.length:Int))))
    (cond (!(mP (ax (t:= .ed) wB (Int.toNat wA)) bG))
     (cond ((decide ((0:Int)≤wE))&&(decide (wE<(wB.length:Int))))
      (kW n x0 bG m (IntKind.wrap .i64 (wE+(1:Int))) (IntKind.wrap .i64 (wA+(1:Int))) (wB.set (Int.toNat wE) (ax (t:= .ed) wB (Int.toNat wA))))
      none)
     (kW n x0 bG m wE (IntKind.wrap .i64 (wA+(1:Int))) wB))
    none)
   (x0 wE wA (decide (wA<(wB.length:Int))) wB))
theorem Kw{R:Type}(n:Nat)(k':Kx R)(bG:cr)(wE:Int)(wA:Int)(wB:List cr):ev pv uI n (cM [1,1,1,0,1,0,0] sj) (si bG wE wA wB) k'=
 (cond (decide (wA<(wB.length:Int)))
 (cond ((decide ((0:Int)≤wA))&&(decide (wA<(wB.length:Int))))
 (cond (!(mP (ax (t:= .ed) wB (Int.toNat wA)) bG))
 (cond ((decide ((0:Int)≤wE))&&(decide (wE<(wB.length:Int))))
 (k' .normal (si bG (IntKind.wrap .i64 (wE+(1:Int))) (IntKind.wrap .i64 (wA+(1:Int))) (wB.set (Int.toNat wE) (ax (t:= .ed) wB (Int.toNat wA)))))
 none)
 (k' .normal (si bG wE (IntKind.wrap .i64 (wA+(1:Int))) wB)))
 none)
 (k' (.exit 0) (BH bG wE wA (decide (wA<(wB.length:Int))) wB))):=by kernel_rfl
theorem Fp{R:Type}(n:Nat)(k':Kx R)(bG:cr):∀(m:Nat)(wE:Int)(wA:Int)(wB:List cr),iter (fun st k=>ev pv uI n (cM [1,1,1,0,1,0,0] sj) st k) m (si bG wE wA wB) k'=kW n (fun(wD:Int)(wL:Int)(wM:Bool)(wF:List cr)=>k' (.exit 0) (BH bG wD wL wM wF)) bG m wE wA wB:=by
 intro m;induction m with
 |zero=>intros;rfl
 |succ m ih=>
  intro wE wA wB
  simp only[iter]
  rw[Kw]
  simp only[ih,kW]
noncomputable def sk(wF:List cr)(wD:Int):List cr:=
 (oi (⟨(⟨ByteArray.empty,ByteArray.empty,(0:Int),(0:Int),(⟨none,0,0⟩:p5),(⟨(0:Int),(0:Int),(0:Int),(0:Int)⟩:aB),(⟨none,0,0⟩:p5)⟩:j4),(0:Int)⟩:cr) wF (Int.toNat wD) (Int.toNat (wF.length:Int)))
noncomputable def Ky{R:Type}(n:Nat)(k':Kx R):Kx R:=(cL 0 (gd pv uI n (cM [1,1,1,1] sj) k'))
theorem Fq{R:Type}(n:Nat)(k:Kt R)(a0:List cr)(a1:cr)(bG:cr)(wD:Int)(wL:Int)(wM:Bool)(wF:List cr):Ky n (bt pv [.jK,.fn] [false] true [.tmp 4] [35] [.d (.sl .ed) a0,.fq 108 [⟨.ed,a1⟩]] k) (.exit 0) (BH bG wD wL wM wF)=
 (cond ((decide ((0:Int)≤wD))&&((decide (wD≤(wF.length:Int)))&&(decide ((wF.length:Int)≤(wF.length:Int)))))
 (cond ((decide ((0:Int)≤wD))&&(decide (wD≤((sk wF wD).length:Int))))
 (k [.d (.sl .ed) (((sk wF wD).take (Int.toNat wD)).drop 0)])
 none)
 none):=by kernel_rfl
theorem Kz{R:Type}(n:Nat)(k:Kt R)(a0:List cr)(a1:cr):aO pv uI n sj [.jK,.fn] [false] true [.tmp 4] [35] [.d (.sl .ed) a0,.fq 108 [⟨.ed,a1⟩]] k=
 (cond ((fun(x:List cr)(_:cr)=>ec x) a0 a1)
 (cond ((vO a0 a1)==(-1:Int))
 (k [.d (.sl .ed) a0])
 (kW n (fun(wD:Int)(wL:Int)(wM:Bool)(wF:List cr)=>
 (cond ((decide ((0:Int)≤wD))&&((decide (wD≤(wF.length:Int)))&&(decide ((wF.length:Int)≤(wF.length:Int)))))
 (cond ((decide ((0:Int)≤wD))&&(decide (wD≤((sk wF wD).length:Int))))
 (k [.d (.sl .ed) (((sk wF wD).take (Int.toNat wD)).drop 0)])
 none)
 none)) a1 n (vO a0 a1) (IntKind.wrap .i64 ((vO a0 a1)+(1:Int))) a0))
 none):=by
  refine Eq.trans (b:=(cond ((fun(x:List cr)(_:cr)=>ec x) a0 a1)
  (cond ((vO a0 a1)==(-1:Int))
   (k [.d (.sl .ed) a0])
   (iter (fun st k=>ev pv uI n (cM [1,1,1,0,1,0,0] sj) st k) n (si a1 (vO a0 a1) (IntKind.wrap .i64 ((vO a0 a1)+(1:Int))) a0) (Ky n (bt pv [.jK,.fn] [false] true [.tmp 4] [35] [.d (.sl .ed) a0,.fq 108 [⟨.ed,a1⟩]] k))))
  none)) (by kernel_rfl) ?_
  simp only[Fp,Fq]
theorem Ft(a0:List cr)(a1:cr)(hg:ec a0=true):∃keep rounds,∀{R:Type}(k:Kt R),aO pv keep rounds sj [.jK,.fn] [false] true [.tmp 4] [35] [.d (.sl .ed) a0,.fq 108 [⟨.ed,a1⟩]] k=k [.d (.sl .ed) (lH a0 a1)]:=by
 have hl:a0.length≤9223372036854775807:=kq hg
 refine⟨uI,a0.length+1,fun {R} k=> ?_⟩
 rw[Kz]
 simp only[hg,cond_true]
 show _=k [.d (.sl .ed) (lH a0 a1)]
 unfold vO mz
 cases hq:fj (fun j=>mP (ax (t:= .ed) a0 j) a1) 0 a0.length with
 |none=>
  have e:lH a0 a1=a0:=Eh (t:= .ed) (p:=fun x=>mP x a1) (lF hq)
  rw[e];rfl
 |some i=>
  obtain⟨_,hi,hp,dm⟩:=lE hq
  have hi:i<a0.length:=by omega
  have dP:((i:Int)==(-1:Int))=false:=by rw[beq_eq_false_iff_ne];omega
  show cond ((i:Int)==(-1:Int)) _ (kW (a0.length+1) _ a1 (a0.length+1) (i:Int) (IntKind.wrap .i64 ((i:Int)+(1:Int))) a0)=_
  obtain⟨_,_,hwi,_⟩:=idx hi hl
  rw[dP,cond_false,hwi]
  refine Eg (t:= .ed) (xs:=a0) (p:=fun x=>mP x a1) (F:=fun m i j vr=>kW (a0.length+1) _ a1 m i j vr) (fun m i j vr vl hj UH=> ?_) (fun m i vr UH hi hv=> ?_) (a0.length-(i+1)) i (i+1) (a0.length+1) a0 (by omega) (by omega) (by omega) rfl (Av (t:= .ed) (p:=fun x=>mP x a1) hi hp dm) rfl
  ·obtain⟨h1,h0,hw,ht⟩:=idx hj hl
   obtain⟨sI,P7,Z0,Um⟩:=idx (show i<a0.length by omega) hl
   simp only[kW,UH,h1,h0,hw,ht,sI,P7,Z0,Um,Bool.and_self,cond_true]
  ·have hle:decide ((i:Int)≤(a0.length:Int))=true:=decide_eq_true (by omega)
   have Z':decide ((a0.length:Int)≤(a0.length:Int))=true:=decide_eq_true (by omega)
   obtain⟨_,P7,_,Um⟩:=idx (show i<a0.length by omega) hl
   have hc:(oi (⟨(⟨ByteArray.empty,ByteArray.empty,(0:Int),(0:Int),(⟨none,0,0⟩:p5),(⟨(0:Int),(0:Int),(0:Int),(0:Int)⟩:aB),(⟨none,0,0⟩:p5)⟩:j4),(0:Int)⟩:cr) vr i a0.length).length=a0.length:=(nn _ (by omega) (by omega)).trans UH
   have xG:(oi (⟨(⟨ByteArray.empty,ByteArray.empty,(0:Int),(0:Int),(⟨none,0,0⟩:p5),(⟨(0:Int),(0:Int),(0:Int),(0:Int)⟩:aB),(⟨none,0,0⟩:p5)⟩:j4),(0:Int)⟩:cr) vr i a0.length).take i=lH a0 a1:=by rw[Ei _ (by omega)];exact hv
   simp only[kW,sk,UH,kn,cond_false,P7,hle,Z',Um,Int.toNat_natCast,hc,xG,Bool.and_self,cond_true,List.drop_zero]
noncomputable def KA:Qt
 | [.d (.sl .ed) a0,.fq 108 [⟨.ed,a1⟩]]=>some (((fun(x:List cr)(_:cr)=>ec x) a0 a1),[.d (.sl .ed) (lH a0 a1)])
 |_=>none
noncomputable def KB:Gm.Spec:=Gm.Spec.of [.jK,.fn] [false] true KA
theorem wx:Gm.Good Try.prog (107,KB):=by
 have hl:∀x∈[(102,sd),(108,Ks)],Gm.Good Try.prog x:=aU.2 ⟨nU,aU.2 ⟨CX,gD⟩⟩
 refine⟨⟨aM (aV.env hl) (bd.cz hl) Try.func107 (by kernel_rfl:Try.f107.body=some sj) [35] (by kernel_rfl) ?_,_,Try.func107,by kernel_rfl,of_decide_eq_true (by kernel_rfl)⟩,Gm.Spec.aG _ _ _ _⟩
 intro ds outs h
 unfold KA at h
 split at h
 ·simp only[Option.some.injEq,Prod.mk.injEq] at h;obtain⟨hg,h⟩:=h;cases h;exact Ft _ _ hg
 ·cases h
end Go.Proofs.Ytnbehmbjoanfoaa.Fl
namespace Go.Proofs.Ytnbehmbjoanfoaa
open Go Go.Gm
noncomputable def KA:Qt
 | [.d (.sl .item) a0,.fq 108 [⟨.item,a1⟩]]=>some (ec a0,[.d (.sl .item) (dn a0 a1)])
 |_=>none
noncomputable def KB:Gm.Spec:=Gm.Spec.of [.jK,.fn] [false] true KA
theorem wx:Gm.Good Try.prog (107,KB):=by
 refine⟨⟨En (g:=108) Fl.wx.1.1 (fun _ _=>rfl) fun ds outs h=> ?_,_,Try.func107,by kernel_rfl,of_decide_eq_true (by kernel_rfl)⟩,Gm.Spec.aG _ _ _ _⟩
 unfold KA at h
 split at h
 ·rename_i a0 a1
  simp only[Option.some.injEq,Prod.mk.injEq] at h
  exact⟨a0,a1,rfl,h.1,h.2.symm⟩
 ·cases h
open Go.RowKit in
set_option maxHeartbeats 4000000 in
set_option maxRecDepth 1000000 in
theorem Ov:V3 Try.prog 110 11:=by
  intro base n cap i vb vo m vc ca news w h
  have hE:(bd.env []).Ok Try.prog:=aV.env (fun _ h=>by simp at h)
  have hm:=h.hm
  have kZ:=h.hi
  have hnc:=h.hn
  have iC:n+m≤4294967296:=h.ZK
  have FI : ¬((m:Int)=0):=by omega
  have mixed:Try.prog.follows .mixedOrders=true:=aV.ord
  have hw1:IntKind.i64.wrap ((i:Int)+(m:Int))=(i:Int)+(m:Int):=by rw[IntKind.wrap_i64];omega
  have xR:(0:Int)≤(i:Int)+(m:Int):=by omega
  have htn:((i:Int)+(m:Int)).toNat=i+m:=by omega
  by_cases hi:i=n
  · subst hi
    obtain⟨b',o',gU,W,dM,oS⟩:=Nw hE (T:=35) (e:= .item) rfl (sz:=11) rfl h vc
    have oS:Hid (mQ w W base b' o' (i+m) gU 11 (ca.take (i*11)++news++ca.drop (i*11))):=oS
    cases base with
    |none=>
      obtain⟨rfl,rfl⟩:=h.nil rfl
      clear h
      go_enter Try.func110,Try.ntmps110
      go_wp2_with (at_builtin;refine Lib.wpList_append_run _ rfl _ _ _ _ rfl _ _ rfl rfl _ _ (dM _) ?_)
      go_ret
      exact⟨b',o',gU,by rw[Nat.zero_add];rfl,oS⟩
    |some a=>
      obtain⟨b,o,cs,el,rfl,_⟩:=h.is _ rfl
      clear h
      go_enter Try.func110,Try.ntmps110
      go_wp2_with (at_builtin;refine Lib.wpList_append_run _ rfl _ _ _ _ rfl _ _ rfl rfl _ _ (dM _) ?_)
      all_goals (go_ret;exact⟨_,_,_,rfl,oS⟩)
  · have cc:i<n:=by omega
    have Y3 : ¬((i:Int)=(n:Int)):=by omega
    cases base with
    |none=>have:=(h.nil rfl).1;omega
    |some a=>
      obtain⟨b,o,cs,el,rfl,_⟩:=h.is _ rfl
      have hb4 : ¬(cap=i):=by omega
      by_cases jz:n+m≤cap
      · obtain⟨W1,V5,hov,Xg,Xh,oS,e1,e2,e3⟩:=HG hE (T:=35) (e:= .item) rfl (sz:=11) rfl h cc jz
        have aac:∀lb cb,(callFunc 137 #[.slice (some ⟨vb,vo,none⟩) m vc,.slice (some ⟨b,o+(i+m)*11,none⟩) lb cb]).run Try.prog w = .ok (.value (.bool false)) w:=fun lb cb=>by
          rw[run_callFunc_extern Try.func137 (by kernel_rfl) (by kernel_rfl) (by kernel_rfl) (e:=Extern.SlicesOverlaps.overlaps #[35,35] #[4]) (by kernel_rfl),hov 4 _ lb cb vc (by simp)]
          rfl
        have Xi:∀ty dc sc,(Builtin.copy_ #[35,35] ty #[.slice (some ⟨b,o+(i+m)*11,none⟩) (n+m-(i+m)) dc,.slice (some ⟨b,o+i*11,none⟩) (n+m-i) sc]).run Try.prog w.drew = .ok (goInt (n-i:Nat)) W1:=fun ty dc sc=>by simpa only[Nat.mul_one] using Xg ty dc sc
        have Xj:∀W:World,W.heap=W1.heap→∀ty dc vc,(Builtin.copy_ #[35,35] ty #[.slice (some ⟨b,o+i*11,none⟩) (n+m-i) dc,.slice (some ⟨vb,vo,none⟩) m vc]).run Try.prog W = .ok (goInt m) (W.setRow b (putAt V5 (o+i*11) news.toArray)):=fun W hW ty dc vc=>by simpa only[Nat.mul_one] using Xh W hW ty dc vc
        have KC:Hid (∀ W:World,W.heap=W1.heap→W.os=w.os→W.tape=w.tape→W.output=w.output→mQ w (W.setRow b (putAt V5 (o+i*11) news.toArray)) (some ⟨b,o,none⟩) b o (n+m) cap 11 (ca.take (i*11)++news++ca.drop (i*11))):=fun W a1 a2 a3 a4=>by simpa only[Nat.mul_one] using oS W a1 a2 a3 a4
        have mh : ¬(cap=i+m):=by omega
        have Gt:(i:Int)≤(n:Int)+(m:Int):=by omega
        have aad:i≤n:=by omega
        clear h hov Xg Xh oS
        go_enter Try.func110,Try.ntmps110
        go_wp2_with (simp only[aac])
        go_region_law_o (refine nN rfl _ _ 35 35 rfl _ _ (by simp[Act.eval,Act.put]) (by simp[Act.eval,Act.put]) (Xi _ _ _) ?_)
        go_wp2_with (at_builtin;refine jr rfl _ _ 35 35 rfl _ _ rfl rfl (Xj _ rfl _ _ _) ?_)
        go_ret
        exact⟨_,_,_,rfl,KC _ rfl e1 e2 e3⟩
      · have hgr:cap<n+m:=by omega
        obtain⟨W1,G,row,UG,hG,Xk,Xl,oS,e1,e2,e3⟩:=HH hE (T:=35) (Ti:=3) (e:= .item) rfl (by kernel_rfl) (sz:=11) rfl h cc hgr
        have KC:Hid (∀ W0 W:World,W0.heap=W1.heap→W.heap=(W0.setRow w.heap.size (putAt row (i*11) news.toArray)).heap→W.os=w.os→W.tape=w.tape→W.output=w.output→
          mQ w (W.setRow w.heap.size (putAt (putAt row (i*11) news.toArray) ((i+m)*11) (ca.drop (i*11)).toArray)) (some ⟨b,o,none⟩) w.heap.size 0 (n+m) G 11 (ca.take (i*11)++news++ca.drop (i*11))):=fun W0 W a1 a2 a3 a4 a5=>by simpa only[Nat.mul_one] using oS W0 W a1 (by simpa only[Nat.mul_one] using a2) a3 a4 a5
        have Xm:∀W:World,W.heap=W1.heap→∀ty dc vc,(Builtin.copy_ #[35,35] ty #[.slice (some ⟨w.heap.size,i*11,none⟩) (n+m-i) dc,.slice (some ⟨vb,vo,none⟩) m vc]).run Try.prog W = .ok (goInt m) (W.setRow w.heap.size (putAt row (i*11) news.toArray)):=fun W hW ty dc vc=>by simpa only[Nat.mul_one] using Xk W hW ty dc vc
        have QS:∀W0 W:World,W0.heap=W1.heap→W.heap=(W0.setRow w.heap.size (putAt row (i*11) news.toArray)).heap→∀ty dc sc,(Builtin.copy_ #[35,35] ty #[.slice (some ⟨w.heap.size,(i+m)*11,none⟩) (n+m-(i+m)) dc,.slice (some ⟨b,o+i*11,none⟩) (n-i) sc]).run Try.prog W=
          .ok (goInt (n-i:Nat)) (W.setRow w.heap.size (putAt (putAt row (i*11) news.toArray) ((i+m)*11) (ca.drop (i*11)).toArray)):=fun W0 W a1 a2 ty dc sc=>by simpa only[Nat.mul_one] using Xl W0 W a1 (by simpa only[Nat.mul_one] using a2) ty dc sc
        have hz3:(cap:Int)<(n:Int)+(m:Int):=by omega
        have hGi : ¬(G=i):=by omega
        have aep : ¬(G=i+m):=by omega
        have Gt:(i:Int)≤(n:Int):=by omega
        have aad:i≤n:=by omega
        clear h Xk Xl oS
        go_enter Try.func110,Try.ntmps110
        go_wp2_with (first
          | (at_builtin;refine Lib.wpList_append_run _ rfl _ _ _ _ rfl _ _ rfl rfl _ _ (UG _) ?_)
          | (at_builtin;refine jr rfl _ _ 35 35 rfl _ _ rfl rfl (Xm _ rfl _ _ _) ?_)
          | (at_builtin;refine jr rfl _ _ 35 35 rfl _ _ rfl rfl (QS _ _ rfl rfl _ _ _) ?_))
        go_region_law_o (refine nN rfl _ _ 35 35 rfl (.slice (some ⟨w.heap.size,(i+m)*11,none⟩) (n+m-(i+m)) (G-(i+m))) (.slice (some ⟨b,o+i*11,none⟩) (n-i) (cap-i)) (by simp[Act.eval,Act.put]) (by simp[Act.eval,Act.put]) (QS W1 ((W1.setRow w.heap.size (putAt row (i*11) news.toArray)).drew) rfl rfl 3 (G-(i+m)) (cap-i)) ?_)
        go_wp2
        go_ret
        have ov:=KC W1 ((W1.setRow w.heap.size (putAt row (i*11) news.toArray)).drew) rfl rfl e1 e2 e3
        first
          | exact⟨_,_,_,rfl,ov⟩
          | (simp only[Nat.mul_one] at ov;exact⟨_,_,_,rfl,by simpa only[Nat.mul_one] using ov⟩)
noncomputable def Xn:Qt
 | [.d (.sl .item) a0,.d (.i .i64) a1,.d (.sl .item) a2]=>some (Ax a0 a1 a2,[.d (.sl .item) (yt a0 a1 a2)])
 |_=>none
noncomputable def Tf:Gm.Spec:=Gm.Spec.of [.jK,.ro,.jK] [false] true Xn
theorem Ow:Gm.Good Try.prog (110,Tf):=by
 refine⟨⟨HI (t:= .item) (sz:=11) rfl Ov fun ds outs h=> ?_,_,Try.func110,by kernel_rfl,of_decide_eq_true (by kernel_rfl)⟩,Gm.Spec.aG _ _ _ _⟩
 unfold Xn at h
 split at h
 ·rename_i a0 a1 a2
  simp only[Option.some.injEq,Prod.mk.injEq] at h
  obtain⟨hg,rfl⟩:=h
  obtain⟨h1,h2,h3,h4⟩:=HJ.1 hg
  exact⟨a0,a2,a1.toNat,by rw[Int.toNat_of_nonneg h1],by omega,h3,h4,rfl⟩
 ·cases h
open Go.RowKit in
set_option maxHeartbeats 4000000 in
set_option maxRecDepth 1000000 in
theorem Tg:VZ Try.prog 64 11:=by
 refine⟨fun a n cap i w hi hn=> ?_,fun b o n cap i j cs el w vl hj hn hb hs h1=> ?_⟩
 ·have hic:i≤cap:=by omega
  go_enter Try.func64,Try.ntmps64
  go_wp2
  all_goals (go_ret;exact⟨rfl,rfl⟩)
 ·obtain⟨eT,ii,news,W1,W2,hu,hi,dQ,hlen,zL,gW,ek,hW1,x8,oS⟩:=HB (E:=bd.env []) (aV.env (fun _ h=>by simp at h)) (T:=35) (e:= .item) rfl (sz:=11) rfl vl hj hn hb hs h1
  obtain⟨A,hA,Xo⟩:∃A:Addr,(if cap=j then (some ⟨b,o,none⟩:Option Addr) else some ⟨b,o+j*11,none⟩)=some A∧Hid (∀ t u,news[t]? =some u→w.drew.cell? (A.add t)=some u):=by
   by_cases h:cap=j
   ·exact⟨⟨b,o,none⟩,by simp[h],gW _ (.inr (by omega))⟩
   ·exact⟨⟨b,o+j*11,none⟩,by simp[h],gW _ (.inl (by simp))⟩
  have qz:∀ty,(Builtin.clear_ #[35] ty #[.slice (some ⟨b,o+(i+(n-j))*11,none⟩) (n-(i+(n-j))) (cap-(i+(n-j)))]).run Try.prog W1 = .ok (.tuple #[]) W2:=fun ty=>x8 ty
  have s5:Hid (Try.prog.underlying 35=some (.slice eT)):=hu
  have s6:Hid (Try.prog.info? eT=some ii):=hi
  have s1:Hid (news.length=(n-j)*11):=hlen
  have s2:Hid (∀ u∈news,u.oneCell'=true):=zL
  have s3:Hid (o+i*11+news.length≤cs.size):=ek
  have s4:Hid (w.heap[b]? =some (.cells cs el (0,0))):=hb
  have hW:Hid (W1=w.drew.setRow b (putAt cs (o+i*11) news.toArray)):=hW1
  have hE:Hid (Au w W2 b o n i j 11 cs el):=oS
  have mixed:Try.prog.follows .mixedOrders=true:=aV.ord
  have hic:i≤cap:=by omega
  have hjc:j≤cap:=by omega
  have dP:i≠j:=by omega
  clear hu hi hlen zL gW ek hW1 x8 oS hb h1 hs
  go_enter Try.func64,Try.ntmps64
  go_wp2_with fail
  go_region_law_o (refine rP rfl (.tmp 22) (.tmp 25) 35 rfl eT ii 11 s5 s6 dQ b o i cap (by simp[Act.eval,Act.put]) A (n-j) (cap-j) news (by simp[Act.eval,Act.put]) s1 Xo s2 (by omega) cs el s4 s3 ?_;rw[← show W1=_ from hW])
  go_wp2
  go_ret
  exact⟨by rw[show n-(j-i)=i+(n-j) by omega];rfl,hE⟩
noncomputable def sn:Qt
 | [.d (.sl .item) a0,.d (.i .i64) a1,.d (.i .i64) a2]=>some (HE a0 a1 a2,[.d (.sl .item) (HD a0 a1 a2)])
 |_=>none
noncomputable def s64:Gm.Spec:=Gm.Spec.of [.jK,.ro,.ro] [false] true sn
theorem Tj:Gm.Good Try.prog (64,s64):=by
 refine⟨⟨HC (t:= .item) (sz:=11) rfl Tg fun ds outs h=> ?_,_,Try.func64,by kernel_rfl,of_decide_eq_true (by kernel_rfl)⟩,Gm.Spec.aG _ _ _ _⟩
 unfold sn at h
 split at h
 ·rename_i a0 a1 a2
  simp only[Option.some.injEq,Prod.mk.injEq] at h
  obtain⟨hg,rfl⟩:=h
  simp only[HE,Bool.and_eq_true,decide_eq_true_eq] at hg
  exact⟨a0,a1.toNat,a2.toNat,by rw[Int.toNat_of_nonneg (by omega),Int.toNat_of_nonneg (by omega)],by omega,by omega,rfl⟩
 ·cases h
noncomputable def Tk:Code:=(Try.f16.body).getD .skip
def Xp:Nat→Kp:=fF [⟨[0],[],[],[]⟩,⟨[0],[],[],[]⟩]
noncomputable def Xq:Env:=bd.env []
theorem Ox{R:Type}(n:Nat)(k:Kt R):aO Xq Xp n Tk [] [false] true [.cell 0 37] [37] [] k=
 (k [.d .store (⟨([]:List af),(1:Int)⟩:ai)]):=by kernel_rfl
theorem KD:∃keep rounds,∀{R:Type}(k:Kt R),aO Xq keep rounds Tk [] [false] true [.cell 0 37] [37] [] k=k [.d .store iF]:=by
 exact⟨Xp,0,fun k=>Ox 0 k⟩
noncomputable def q16:Qt
 | []=>some (true,[.d .store iF])
 |_=>none
noncomputable def s16:Gm.Spec:=Gm.Spec.of [] [false] true q16
theorem KE:Gm.Good Try.prog (16,s16):=by
 have hl:∀x∈([]:List (Nat×Gm.Spec)),Gm.Good Try.prog x:=fun _ h=>by cases h
 refine⟨⟨aM (aV.env hl) (bd.cz hl) Try.func16 (by kernel_rfl:Try.f16.body=some Tk) [37] (by kernel_rfl) ?_,_,Try.func16,by kernel_rfl,of_decide_eq_true (by kernel_rfl)⟩,Gm.Spec.aG _ _ _ _⟩
 intro ds outs h
 unfold q16 at h
 split at h
 ·cases h;exact KD
 ·cases h
noncomputable def Tl:Code:=(Try.f62.body).getD .skip
def Xr:Nat→Kp:=fF [⟨[1,2],[],[],[]⟩,⟨[2],[],[],[]⟩]
noncomputable def Xs:Env:=bd.env [(69,SK)]
theorem Oy{R:Type}(n:Nat)(k:Kt R)(a0:ai):aO Xs Xr n Tl [.ro] [false] true [.cell 2 37] [37] [.d .store a0] k=
 (cond (gC bn (ai.items a0))
 (k [.d .store a0])
 none):=by kernel_rfl
theorem KF(a0:ai)(hg:bD a0=true):∃keep rounds,∀{R:Type}(k:Kt R),aO Xs keep rounds Tl [.ro] [false] true [.cell 2 37] [37] [.d .store a0] k=k [.d .store a0]:=by
 simp only[bD,Bool.and_eq_true] at hg
 refine⟨Xr,0,fun k=> ?_⟩
 rw[Oy];simp only[hg.1,cond_true]
noncomputable def so:Qt
 | [.d .store a0]=>some ((bD a0),[.d .store a0])
 |_=>none
noncomputable def Xt:Gm.Spec:=Gm.Spec.of [.ro] [false] true so
theorem KG:Gm.Good Try.prog (62,Xt):=by
 have hl:∀x∈[(69,SK)],Gm.Good Try.prog x:=aU.2 ⟨A5,gD⟩
 refine⟨⟨aM (aV.env hl) (bd.cz hl) Try.func62 (by kernel_rfl:Try.f62.body=some Tl) [37] (by kernel_rfl) ?_,_,Try.func62,by kernel_rfl,of_decide_eq_true (by kernel_rfl)⟩,Gm.Spec.aG _ _ _ _⟩
 intro ds outs h
 unfold so at h
 split at h
 ·simp only[Option.some.injEq,Prod.mk.injEq] at h;obtain⟨hg,h⟩:=h;cases h;exact KF _ hg
 ·cases h
noncomputable def Tm:Code:=(Try.f60.body).getD .skip
def Xu:Nat→Kp:=fF [⟨[0,3],[],[],[]⟩,⟨[4],[],[],[]⟩]
noncomputable def Xv:Env:=bd.env [(102,sd),(103,J')]
theorem Oz{R:Type}(n:Nat)(k:Kt R)(a0:List af)(a1:BA):aO Xv Xu n Tm [.ro,.ro] [false] true [.tmp 4] [3] [.d (.sl .item) a0,.d .str a1] k=
 (cond ((fun(x:List af)(_:BA)=>ec x) a0 a1)
 (k [.d (.i .i64) (dw a0 a1)])
 none):=by kernel_rfl
theorem KH(a0:List af)(a1:BA)(hg:ec a0=true):∃keep rounds,∀{R:Type}(k:Kt R),aO Xv keep rounds Tm [.ro,.ro] [false] true [.tmp 4] [3] [.d (.sl .item) a0,.d .str a1] k=k [.d (.i .i64) (dw a0 a1)]:=by
 refine⟨Xu,0,fun k=> ?_⟩
 rw[Oz];simp only[hg,cond_true]
noncomputable def q60:Qt
 | [.d (.sl .item) a0,.d .str a1]=>some (((fun(x:List af)(_:BA)=>ec x) a0 a1),[.d (.i .i64) (dw a0 a1)])
 |_=>none
noncomputable def Xw:Gm.Spec:=Gm.Spec.of [.ro,.ro] [false] true q60
theorem KI:Gm.Good Try.prog (60,Xw):=by
 have hl:∀x∈[(102,sd),(103,J')],Gm.Good Try.prog x:=aU.2 ⟨nU,aU.2 ⟨CV,gD⟩⟩
 refine⟨⟨aM (aV.env hl) (bd.cz hl) Try.func60 (by kernel_rfl:Try.f60.body=some Tm) [3] (by kernel_rfl) ?_,_,Try.func60,by kernel_rfl,of_decide_eq_true (by kernel_rfl)⟩,Gm.Spec.aG _ _ _ _⟩
 intro ds outs h
 unfold q60 at h
 split at h
 ·simp only[Option.some.injEq,Prod.mk.injEq] at h;obtain⟨hg,h⟩:=h;cases h;exact KH _ _ hg
 ·cases h
noncomputable def Tn:Code:=(Try.f66.body).getD .skip
def Xx:Nat→Kp:=fF [⟨[0,3],[],[],[]⟩,⟨[3,5],[],[],[]⟩,⟨[3,5,6],[],[],[]⟩,⟨[3,5,6,15],[],[],[]⟩,⟨[3,5,6],[],[],[]⟩,⟨[4],[],[],[]⟩]
noncomputable def Xy:Env:=bd.env [(61,Ev),(69,SK),(102,sd),(107,KB),(109,Kc),(110,Tf)]
theorem OA{R:Type}(n:Nat)(k:Kt R)(a0:List af)(a1:af):aO Xy Xx n Tn [.ro,.ro] [false] true [.tmp 4] [35] [.d (.sl .item) a0,.d .item a1] k=
 (cond (gC bn a0)
 (cond ((fun(x:List af)(_:af)=>ec x) a0 a1)
 (cond ((fun(x:List af)(_:af)=>ec x) (dn a0 a1) a1)
 (cond (decide ((Ej (dn a0 a1) a1)<(0:Int)))
 (cond (bn a1)
 (cond (Ax (dn a0 a1) ((dn a0 a1).length:Int) ([a1]:List af))
 (k [.d (.sl .item) (yt (dn a0 a1) ((dn a0 a1).length:Int) ([a1]:List af))])
 none)
 none)
 (cond (bn a1)
 (cond (Ax (dn a0 a1) (Ej (dn a0 a1) a1) ([a1]:List af))
 (k [.d (.sl .item) (yt (dn a0 a1) (Ej (dn a0 a1) a1) ([a1]:List af))])
 none)
 none))
 none)
 none)
 none):=by kernel_rfl
theorem KJ(a0:List af)(a1:af)(hg:uk a0 a1=true):∃keep rounds,∀{R:Type}(k:Kt R),aO Xy keep rounds Tn [.ro,.ro] [false] true [.tmp 4] [35] [.d (.sl .item) a0,.d .item a1] k=k [.d (.sl .item) (oK a0 a1)]:=by
 simp only[uk,Bool.and_eq_true] at hg
 obtain⟨h1,h2⟩:=hg
 have hl:=dU h1
 have hb:=um a0 a1
 refine⟨Xx,0,fun {R} k=> ?_⟩
 rw[OA]
 simp only[h1,h2,kr (show a0.length≤9223372036854775807 by omega),kr (show (dn a0 a1).length≤9223372036854775807 by omega),cond_true]
 show _=k [.d (.sl .item) (yt (dn a0 a1) (NF a0 a1) [a1])]
 unfold NF
 rcases V9 (dn a0 a1) a1 with e | ⟨i,e,hi⟩
 ·simp only[e,decide_eq_true (show (-1:Int)<0 by decide),cond_true,CM (Nat.le_refl _) (show (dn a0 a1).length≤1048576 by omega)]
 ·simp only[e,decide_eq_false (show ¬(i:Int)<0 by omega),cond_false,cond_true,CM (Nat.le_of_lt hi) (show (dn a0 a1).length≤1048576 by omega)]
noncomputable def q66:Qt
 | [.d (.sl .item) a0,.d .item a1]=>some ((uk a0 a1),[.d (.sl .item) (oK a0 a1)])
 |_=>none
noncomputable def s66:Gm.Spec:=Gm.Spec.of [.ro,.ro] [false] true q66
theorem To:Gm.Good Try.prog (66,s66):=by
 have hl:∀x∈[(61,Ev),(69,SK),(102,sd),(107,KB),(109,Kc),(110,Tf)],Gm.Good Try.prog x:=aU.2 ⟨oM,aU.2 ⟨A5,aU.2 ⟨nU,aU.2 ⟨wx,aU.2 ⟨CW,aU.2 ⟨Ow,gD⟩⟩⟩⟩⟩⟩
 refine⟨⟨aM (aV.env hl) (bd.cz hl) Try.func66 (by kernel_rfl:Try.f66.body=some Tn) [35] (by kernel_rfl) ?_,_,Try.func66,by kernel_rfl,of_decide_eq_true (by kernel_rfl)⟩,Gm.Spec.aG _ _ _ _⟩
 intro ds outs h
 unfold q66 at h
 split at h
 ·simp only[Option.some.injEq,Prod.mk.injEq] at h;obtain⟨hg,h⟩:=h;cases h;exact KJ _ _ hg
 ·cases h
noncomputable def Tp:Code:=(Try.f19.body).getD .skip
def Xz:Nat→Kp:=fF [⟨[1,2,4],[],[],[]⟩,⟨[2,4,6],[],[],[]⟩,⟨[2,4,6,12],[],[],[]⟩,⟨[4,5],[],[],[]⟩,⟨[4,5],[],[],[]⟩]
noncomputable def XA:Env:=bd.env [(60,Xw),(61,Ev)]
theorem OB{R:Type}(n:Nat)(k:Kt R)(a0:ai)(a1:BA):aO XA Xz n Tp [.ro,.ro] [false,false] true [.cell 4 50,.tmp 5] [50,4] [.d .store a0,.d .str a1] k=
 (cond ((fun(x:List af)(_:BA)=>ec x) (ai.items a0) a1)
 (cond (decide ((dw (ai.items a0) a1)<(0:Int)))
 (k [.d .item (⟨(⟨ByteArray.empty,ByteArray.empty,(0:Int),(0:Int),([]:List aj),(⟨(0:Int),(0:Int),(0:Int),(0:Int)⟩:aB),([]:List aF)⟩:ae),(0:Int)⟩:af),.d .bool false])
 (cond ((decide ((0:Int)≤(dw (ai.items a0) a1)))&&(decide ((dw (ai.items a0) a1)<((ai.items a0).length:Int))))
 (cond (bn (ax (t:= .item) (ai.items a0) (Int.toNat (dw (ai.items a0) a1))))
 (k [.d .item (ax (t:= .item) (ai.items a0) (Int.toNat (dw (ai.items a0) a1))),.d .bool true])
 none)
 none))
 none):=by kernel_rfl
theorem KK(a0:ai)(a1:BA)(hg:bD a0=true):∃keep rounds,∀{R:Type}(k:Kt R),aO XA keep rounds Tp [.ro,.ro] [false,false] true [.cell 4 50,.tmp 5] [50,4] [.d .store a0,.d .str a1] k=k [.d .item ((fndI a0 a1).1),.d .bool ((fndI a0 a1).2)]:=by
 obtain⟨h1,_⟩:=eE hg
 have hl:=dU h1
 refine⟨Xz,0,fun {R} k=> ?_⟩
 rw[OB]
 simp only[kr (show a0.items.length≤9223372036854775807 by omega),cond_true]
 unfold fndI
 rcases nO a0.items a1 with e | ⟨i,e,hi⟩
 ·simp only[e,decide_eq_true (show (-1:Int)<0 by decide),cond_true];rfl
 ·have hs:=List.all_eq_true.1 (gQ h1) _ (List.mem_of_getElem? (eo (t:= .item) hi))
  obtain⟨b1,b0,_,ht⟩:=idx hi (by omega)
  simp only[e,decide_eq_false (show ¬(i:Int)<0 by omega),cond_false,b1,b0,Bool.and_self,cond_true,ht,hs]
noncomputable def q19:Qt
 | [.d .store a0,.d .str a1]=>some (((fun(s:ai)(_:BA)=>bD s) a0 a1),[.d .item ((fndI a0 a1).1),.d .bool ((fndI a0 a1).2)])
 |_=>none
noncomputable def s19:Gm.Spec:=Gm.Spec.of [.ro,.ro] [false,false] true q19
theorem KL:Gm.Good Try.prog (19,s19):=by
 have hl:∀x∈[(60,Xw),(61,Ev)],Gm.Good Try.prog x:=aU.2 ⟨KI,aU.2 ⟨oM,gD⟩⟩
 refine⟨⟨aM (aV.env hl) (bd.cz hl) Try.func19 (by kernel_rfl:Try.f19.body=some Tp) [50,4] (by kernel_rfl) ?_,_,Try.func19,by kernel_rfl,of_decide_eq_true (by kernel_rfl)⟩,Gm.Spec.aG _ _ _ _⟩
 intro ds outs h
 unfold q19 at h
 split at h
 ·simp only[Option.some.injEq,Prod.mk.injEq] at h;obtain⟨hg,h⟩:=h;cases h;exact KK _ _ hg
 ·cases h
noncomputable def Tq:Code:=(Try.f22.body).getD .skip
def XB:Nat→Kp:=fF [⟨[2,3,4],[],[],[]⟩,⟨[2,4,6],[],[],[]⟩,⟨[2,4,6,25],[],[],[]⟩,⟨[4,5],[],[],[]⟩,⟨[4,5],[],[],[]⟩]
noncomputable def XC:Env:=bd.env [(62,Xt),(63,Xe),(66,s66)]
theorem OC{R:Type}(n:Nat)(k:Kt R)(a0:ai)(a1:ae):aO XC XB n Tq [.ro,.ro] [false,false] true [.cell 4 37,.tmp 5] [37,4] [.d .store a0,.d .order a1] k=
 (cond (uk (ai.items a0) (⟨a1,(ai.next a0)⟩:af))
 (cond (bD a0)
 (cond (!(cT a0))
 (cond (bD a0)
 (k [.d .store a0,.d .bool false])
 none)
 (cond (bD (⟨(oK (ai.items a0) (⟨a1,(ai.next a0)⟩:af)),(IntKind.wrap .i64 ((ai.next a0)+(1:Int)))⟩:ai))
 (cond (!(cT (⟨(oK (ai.items a0) (⟨a1,(ai.next a0)⟩:af)),(IntKind.wrap .i64 ((ai.next a0)+(1:Int)))⟩:ai)))
 (cond (bD a0)
 (k [.d .store a0,.d .bool false])
 none)
 (k [.d .store (⟨(oK (ai.items a0) (⟨a1,(ai.next a0)⟩:af)),(IntKind.wrap .i64 ((ai.next a0)+(1:Int)))⟩:ai),.d .bool true]))
 none))
 none)
 none):=by kernel_rfl
theorem KM(a0:ai)(a1:ae)(hg:k6 a0 a1=true):∃keep rounds,∀{R:Type}(k:Kt R),aO XC keep rounds Tq [.ro,.ro] [false,false] true [.cell 4 37,.tmp 5] [37,4] [.d .store a0,.d .order a1] k=k [.d .store ((cg a0 a1).1),.d .bool ((cg a0 a1).2)]:=by
 have hn:=CN hg
 simp only[k6,Bool.and_eq_true] at hg
 obtain⟨hs,ho,hl⟩:=hg
 obtain⟨h1,h2⟩:=eE hs
 have hp:uk a0.items ⟨a1,a0.next⟩=true:=by
  simp only[uk,bn,Bool.and_eq_true];exact⟨h1,ho,h2⟩
 refine⟨XB,0,fun {R} k=> ?_⟩
 rw[OC]
 simp only[hp,hs,cond_true]
 unfold cg
 cases cT a0
 ·rfl
 ·simp only[Bool.not_true,cond_false]
  show cond (bD (mR a0 a1)) (cond (!(cT (mR a0 a1))) _ _) _=_
  rw[hn,cond_true]
  cases cT (mR a0 a1)<;>rfl
noncomputable def SC:Qt
 | [.d .store a0,.d .order a1]=>some ((k6 a0 a1),[.d .store ((cg a0 a1).1),.d .bool ((cg a0 a1).2)])
 |_=>none
noncomputable def s22:Gm.Spec:=Gm.Spec.of [.ro,.ro] [false,false] true SC
theorem KN:Gm.Good Try.prog (22,s22):=by
 have hl:∀x∈[(62,Xt),(63,Xe),(66,s66)],Gm.Good Try.prog x:=aU.2 ⟨KG,aU.2 ⟨Ko,aU.2 ⟨To,gD⟩⟩⟩
 refine⟨⟨aM (aV.env hl) (bd.cz hl) Try.func22 (by kernel_rfl:Try.f22.body=some Tq) [37,4] (by kernel_rfl) ?_,_,Try.func22,by kernel_rfl,of_decide_eq_true (by kernel_rfl)⟩,Gm.Spec.aG _ _ _ _⟩
 intro ds outs h
 unfold SC at h
 split at h
 ·simp only[Option.some.injEq,Prod.mk.injEq] at h;obtain⟨hg,h⟩:=h;cases h;exact KM _ _ hg
 ·cases h
noncomputable def Tr:Code:=(Try.f20.body).getD .skip
def XD:Nat→Kp:=fF [⟨[1,2,4],[],[],[]⟩,⟨[1,2,4],[],[],[]⟩,⟨[2,4,6],[],[],[]⟩,⟨[2,4,6,19],[],[],[]⟩,⟨[4,5],[],[],[]⟩,⟨[2,4],[],[],[]⟩,⟨[4,5],[],[],[]⟩]
noncomputable def XE:Env:=bd.env [(60,Xw),(62,Xt),(63,Xe),(64,s64)]
theorem OD{R:Type}(n:Nat)(k:Kt R)(a0:ai)(a1:BA):aO XE XD n Tr [.ro,.ro] [false,false] true [.cell 4 37,.tmp 5] [37,4] [.d .store a0,.d .str a1] k=
 (cond (bD a0)
 (cond ((fun(x:List af)(_:BA)=>ec x) (ai.items a0) a1)
 (cond (bD a0)
 (cond (!(cT a0))
 (k [.d .store a0,.d .bool false])
 (cond (decide ((dw (ai.items a0) a1)<(0:Int)))
 (k [.d .store a0,.d .bool false])
 (cond (HE (ai.items a0) (dw (ai.items a0) a1) (IntKind.wrap .i64 ((dw (ai.items a0) a1)+(1:Int))))
 (k [.d .store (⟨(HD (ai.items a0) (dw (ai.items a0) a1) (IntKind.wrap .i64 ((dw (ai.items a0) a1)+(1:Int)))),(ai.next a0)⟩:ai),.d .bool true])
 none)))
 none)
 none)
 none):=by kernel_rfl
theorem KO(a0:ai)(a1:BA)(hg:bD a0=true):∃keep rounds,∀{R:Type}(k:Kt R),aO XE keep rounds Tr [.ro,.ro] [false,false] true [.cell 4 37,.tmp 5] [37,4] [.d .store a0,.d .str a1] k=k [.d .store ((bO a0 a1).1),.d .bool ((bO a0 a1).2)]:=by
 obtain⟨h1,h2⟩:=eE hg
 have hl:=dU h1
 refine⟨XD,0,fun {R} k=> ?_⟩
 rw[OD]
 simp only[hg,kr (show a0.items.length≤9223372036854775807 by omega),cond_true]
 unfold bO
 cases cT a0
 ·rfl
 ·rcases nO a0.items a1 with e | ⟨i,e,hi⟩
  ·simp only[e,decide_eq_true (show (-1:Int)<0 by decide),Bool.not_true,cond_true,cond_false]
  ·simp only[e,decide_eq_false (show ¬(i:Int)<0 by omega),Bool.not_true,cond_true,cond_false,AB hi hl]
noncomputable def q20:Qt
 | [.d .store a0,.d .str a1]=>some (((fun(s:ai)(_:BA)=>bD s) a0 a1),[.d .store ((bO a0 a1).1),.d .bool ((bO a0 a1).2)])
 |_=>none
noncomputable def s20:Gm.Spec:=Gm.Spec.of [.ro,.ro] [false,false] true q20
theorem KP:Gm.Good Try.prog (20,s20):=by
 have hl:∀x∈[(60,Xw),(62,Xt),(63,Xe),(64,s64)],Gm.Good Try.prog x:=aU.2 ⟨KI,aU.2 ⟨KG,aU.2 ⟨Ko,aU.2 ⟨Tj,gD⟩⟩⟩⟩
 refine⟨⟨aM (aV.env hl) (bd.cz hl) Try.func20 (by kernel_rfl:Try.f20.body=some Tr) [37,4] (by kernel_rfl) ?_,_,Try.func20,by kernel_rfl,of_decide_eq_true (by kernel_rfl)⟩,Gm.Spec.aG _ _ _ _⟩
 intro ds outs h
 unfold q20 at h
 split at h
 ·simp only[Option.some.injEq,Prod.mk.injEq] at h;obtain⟨hg,h⟩:=h;cases h;exact KO _ _ hg
 ·cases h
end Go.Proofs.Ytnbehmbjoanfoaa
