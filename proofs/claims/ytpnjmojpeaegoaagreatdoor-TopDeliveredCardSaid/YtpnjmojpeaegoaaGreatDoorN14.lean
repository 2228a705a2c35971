/-
  TopDelivered returns true whatever the input, and the input reads behind the call as it read before, where the three listed tables of Go's library hold what the program's text lays: a part of the proof.
-/
import Derived.Test.YtpnjmojpeaegoaaGreatDoorProg
import Derived.KernelRfl
import Derived.Test.YtpnjmojpeaegoaaGreatDoorN13
set_option linter.unusedSimpArgs false
set_option linter.unusedVariables false
namespace Go.Proofs.YtpnjmojpeaegoaaGreatDoor
open Go.Eng
abbrev z0:Value:= .int .i64 0
abbrev zb:Value:= .bool false
abbrev zs:Value:= .slice none 0 0
abbrev fD (n:String) (t o b:Nat):Field:=⟨n,t,o,false,"","",b⟩
theorem tk {P:Program} {t:TypeId} {x:TI} (c:P.underlying t=some x.desc:=by kernel_rfl) (e:qe x.desc=x.agg:=by rfl)
  (f:(P.info? t).map (λi=>(i.zero,i.size,i.bytes))=some (some x.zero,x.size,x.bytes):=by kernel_rfl) (a:(!x.cmp||xN P t)=true:=by kernel_rfl):fd P t x/\(x.cmp=true->xN P t=true):=
 ⟨fd.of c e f,λh=>by rw[h] at a;exact a⟩
def aEf:TI:=⟨(.struct #[fD "Nets" 22 0 0,fD "Claims" 23 1 24,fD "Grants" 24 2 48,fD "Keepers" 3 3 72,fD "Needed" 3 4 80,fD "Wait" 3 5 88,fD "Puppets" 25 6 96,fD "Near" 3 7 120]),true,8,128,(.agg #[zs,zs,zs,z0,z0,z0,zs,z0]),false⟩
def ti4:TI:=⟨.bool,false,1,1,zb,false⟩
def aEg:TI:=⟨(.struct #[fD "Step" 3 0 0,fD "Events" 31 1 8,fD "Queue" 32 2 32,fD "Sent" 33 3 56,fD "Refused" 34 4 80,fD "Pairs" 35 5 104,fD "Proofs" 36 6 128,fD "Notes" 37 7 152,fD "Bad" 38 8 176,fD "Holds" 39 9 200,fD "Orders" 40 10 224,fD "Sealed" 41 11 248,fD "Debts" 34 12 272]),true,13,296,(.agg #[z0,zs,zs,zs,zs,zs,zs,zs,zs,zs,zs,zs,zs]),false⟩
def aEh:TI:=⟨(.int .i64),false,1,8,z0,false⟩
def aEi:TI:=⟨(.slice 48),false,1,24,zs,false⟩
def ti3:TI:=⟨(.int .i64),false,1,8,z0,false⟩
def aEj:TI:=⟨(.slice 52),false,1,24,zs,false⟩
def aEk:TI:=⟨(.struct #[fD "Kind" 3 0 0,fD "Net" 3 1 8,fD "Event" 3 2 16,fD "Item" 50 3 24]),true,14,136,(.agg #[z0,z0,z0,z0,z0,z0,z0,z0,z0,z0,z0,z0,(.string ⟨#[]⟩),zs]),false⟩
def aEl:TI:=⟨(.slice 66),false,1,24,zs,false⟩
def aEm:TI:=⟨(.slice 54),false,1,24,zs,false⟩
def aEn:TI:=⟨(.struct #[fD "Event" 3 0 0,fD "Net" 3 1 8,fD "Step" 3 2 16]),true,3,24,(.agg ⟨List.replicate 3 z0⟩),true⟩
def aEo:TI:=⟨(.slice 64),false,1,24,zs,false⟩
def aEp:TI:=⟨(.slice 9),false,1,24,zs,false⟩
def ti9:TI:=⟨.string,false,1,16,(.string ⟨#[]⟩),false⟩
def aEq:TI:=⟨(.struct #[fD "Name" 9 0 0,fD "Edit" 3 1 16,fD "Within" 3 2 24,fD "Delete" 3 3 32,fD "React" 4 4 40,fD "Thread" 3 5 48,fD "Quote" 4 6 56,fD "Mention" 4 7 57,fD "Size" 3 8 64,fD "Parts" 3 9 72,fD "Files" 3 10 80,fD "Bytes" 3 11 88,fD "Types" 22 12 96,fD "Join" 3 13 120,fD "History" 3 14 128,fD "Remove" 3 15 136,fD "Level" 3 16 144,fD "Batch" 4 17 152,fD "Rate" 3 18 160,fD "Down" 3 19 168,fD "Window" 3 20 176,fD "Keep" 3 21 184]),true,22,192,(.agg #[(.string ⟨#[]⟩),z0,z0,z0,zb,z0,zb,zb,z0,z0,z0,z0,zs,z0,z0,z0,z0,zb,z0,z0,z0,z0]),false⟩
def aEr:TI:=⟨(.struct #[fD "Author" 3 0 0,fD "Seq" 3 1 8,fD "Causes" 25 2 16,fD "Kind" 3 3 40,fD "Group" 3 4 48,fD "Target" 3 5 56,fD "Quote" 3 6 64,fD "Who" 3 7 72,fD "N" 3 8 80,fD "Text" 9 9 88,fD "Files" 25 10 104,fD "Step" 3 11 128]),true,12,136,(.agg #[z0,z0,zs,z0,z0,z0,z0,z0,z0,(.string ⟨#[]⟩),zs,z0]),false⟩
def aEs:TI:=⟨(.slice 68),false,1,24,zs,false⟩
def aEt:TI:=⟨(.struct #[fD "Event" 3 0 0,fD "Net" 3 1 8]),true,2,16,(.agg #[z0,z0]),true⟩
def aEu:TI:=⟨(.struct #[fD "Event" 3 0 0,fD "Net" 3 1 8,fD "Left" 3 2 16,fD "Due" 3 3 24]),true,4,32,(.agg ⟨List.replicate 4 z0⟩),true⟩
def aEv:TI:=⟨(.struct #[fD "From" 3 0 0,fD "To" 3 1 8,fD "Own" 4 2 16]),true,3,24,(.agg #[z0,z0,zb]),true⟩
def aEw:TI:=⟨(.slice 83),false,1,24,zs,false⟩
def aEx:TI:=⟨(.pointer 151),false,1,8,(.pointer none),false⟩
def aEy:TI:=⟨(.pointer 154),false,1,8,(.pointer none),false⟩
def aEz:TI:=⟨(.slice 3),false,1,24,zs,false⟩
def aF0:TI:=⟨(.struct #[fD "Account" 3 0 0,fD "Group" 3 1 8,fD "Step" 3 2 16,fD "On" 3 3 24,fD "Quote" 3 4 32]),true,5,40,(.agg ⟨List.replicate 5 z0⟩),true⟩
def aF1:TI:=⟨(.slice 92),false,1,24,zs,false⟩
def aF2:TI:=⟨(.slice 110),false,1,24,zs,false⟩
def aB1:TI:=⟨(.struct #[fD "Kind" 3 0 0,fD "Net" 3 1 8,fD "Event" 3 2 16,fD "Local" 3 3 24,fD "N" 3 4 32,fD "Raw" 98 5 40,fD "Note" 100 15 144,fD "Proof" 102 20 184,fD "Verdict" 104 23 208,fD "Hold" 106 26 232,fD "Order" 108 30 264,fD "Up" 61 34 296]),true,35,320,(.agg #[z0,z0,z0,z0,z0,z0,z0,z0,z0,z0,z0,z0,z0,(.string ⟨#[]⟩),zs,z0,z0,z0,z0,zb,z0,z0,z0,z0,z0,zb,z0,z0,z0,z0,z0,z0,z0,z0,zs]),false⟩
def aF3:TI:=⟨(.slice 208),false,1,24,zs,false⟩
def aF4:TI:=⟨(.slice 205),false,1,24,zs,false⟩
def aB2:TI:=⟨(.struct #[⟨ "tokens",118,0,false,"","lingua/syntax",0⟩,⟨ "pos",3,1,false,"","lingua/syntax",24⟩,⟨ "err",45,2,false,"","lingua/syntax",32⟩]),true,3,40,(.agg #[zs,z0,z0]),false⟩
def aB3:TI:=⟨(.slice 132),false,1,24,zs,false⟩
def aB4:TI:=⟨(.struct #[fD "Kind" 3 0 0,fD "Text" 9 1 8,fD "N" 3 2 24,fD "Pos" 3 3 32]),true,4,40,(.agg #[z0,(.string ⟨#[]⟩),z0,z0]),true⟩
def aF5:TI:=⟨(.slice 4),false,1,24,zs,false⟩
def aB5:TI:=⟨(.struct #[fD "Id" 3 0 0,fD "Size" 3 1 8,fD "Due" 3 2 16]),true,3,24,(.agg ⟨List.replicate 3 z0⟩),true⟩
def aB6:TI:=⟨(.slice 143),false,1,24,zs,false⟩
def aB7:TI:=⟨(.struct #[⟨ "window",3,0,false,"","lingua/link",0⟩,⟨ "sent",3,1,false,"","lingua/link",8⟩,⟨ "base",3,2,false,"","lingua/link",16⟩]),true,3,24,(.agg ⟨List.replicate 3 z0⟩),true⟩
def aB8:TI:=⟨(.map 3 4),false,1,8,(.map none),false⟩
def aB9:TI:=⟨(.struct #[⟨ "window",3,0,false,"","lingua/link",0⟩,⟨ "next",3,1,false,"","lingua/link",8⟩,⟨ "here",152,2,false,"","lingua/link",16⟩]),true,3,24,(.agg #[z0,z0,(.map none)]),false⟩
def aF6:TI:=⟨(.struct #[fD "Account" 3 0 0,fD "Seq" 3 1 8,fD "Kind" 3 2 16,fD "Group" 3 3 24,fD "On" 3 4 32,fD "Quote" 3 5 40,fD "Who" 3 6 48,fD "N" 3 7 56,fD "Text" 9 8 64,fD "Files" 25 9 80]),true,10,104,(.agg #[z0,z0,z0,z0,z0,z0,z0,z0,(.string ⟨#[]⟩),zs]),false⟩
def aF7:TI:=⟨(.slice 237),false,1,24,zs,false⟩
def aBa:TI:=⟨(.struct #[⟨ "s",27,0,false,"","lingua/gate",0⟩,⟨ "nets",163,8,false,"","lingua/gate",128⟩,⟨ "ways",164,9,false,"","lingua/gate",152⟩,⟨ "st",43,10,false,"","lingua/gate",176⟩,⟨ "out",48,23,false,"","lingua/gate",472⟩]),true,24,496,(.agg #[zs,zs,zs,z0,z0,z0,zs,z0,zs,zs,z0,zs,zs,zs,zs,zs,zs,zs,zs,zs,zs,zs,zs,zs]),false⟩
def aBb:TI:=⟨(.slice 56),false,1,24,zs,false⟩
def aBc:TI:=⟨(.slice 167),false,1,24,zs,false⟩
def aBd:TI:=⟨(.map 3 170),false,1,8,(.map none),false⟩
def aBe:TI:=⟨(.array 2 3),true,2,16,(.agg #[z0,z0]),false⟩
def aBf:TI:=⟨(.slice 181),false,1,24,zs,false⟩
def aBg:TI:=⟨(.slice 193),false,1,24,zs,false⟩
def aBh:TI:=⟨(.struct #[⟨ "job",143,0,false,"","lingua/admit",0⟩,⟨ "needs",3,3,false,"","lingua/admit",24⟩,⟨ "gives",3,4,false,"","lingua/admit",32⟩]),true,5,40,(.agg ⟨List.replicate 5 z0⟩),false⟩
def aBi:TI:=⟨(.int .u64),false,1,8,(.int .u64 0),false⟩
def aBj:TI:=⟨(.map 3 3),false,1,8,(.map none),false⟩
def aBk:TI:=⟨(.struct #[fD "Group" 3 0 0,fD "Person" 3 1 8,fD "Rights" 3 2 16]),true,3,24,(.agg ⟨List.replicate 3 z0⟩),true⟩
def aF8:TI:=⟨(.slice 102),false,1,24,zs,false⟩
def aBl:TI:=⟨(.map 208 4),false,1,8,(.map none),false⟩
def aBm:TI:=⟨(.struct #[fD "Account" 3 0 0,fD "Person" 3 1 8]),true,2,16,(.agg #[z0,z0]),true⟩
def aBn:TI:=⟨(.struct #[fD "How" 3 0 0,fD "Finds" 3 1 8]),true,2,16,(.agg #[z0,z0]),true⟩
def aBo:TI:=⟨(.slice 212),false,1,24,zs,false⟩
def aBp:TI:=⟨(.struct #[⟨ "is",4,0,false,"","lingua/ways",0⟩,⟨ "way",212,1,false,"","lingua/ways",8⟩]),true,3,24,(.agg #[zb,z0,z0]),false⟩
def aBq:TI:=⟨(.slice 215),false,1,24,zs,false⟩
def aF9:TI:=⟨(.slice 225),false,1,24,zs,false⟩
def aBr:TI:=⟨(.struct #[fD "Net" 3 0 0,fD "Local" 3 1 8,fD "Event" 3 2 16,fD "Part" 3 3 24]),true,4,32,(.agg ⟨List.replicate 4 z0⟩),true⟩
def aBs:TI:=⟨(.struct #[fD "Message" 3 0 0,fD "Who" 3 1 8,fD "Level" 3 2 16,fD "Step" 3 3 24,fD "Not" 4 4 32]),true,5,40,(.agg #[z0,z0,z0,z0,zb]),true⟩
def aBt:TI:=⟨(.slice 100),false,1,24,zs,false⟩
def aBu:TI:=⟨(.struct #[fD "Kind" 3 0 0,fD "A" 3 1 8,fD "B" 3 2 16]),true,3,24,(.agg ⟨List.replicate 3 z0⟩),true⟩
def aBv:TI:=⟨(.struct #[fD "Name" 3 0 0,fD "Step" 3 1 8,fD "Bad" 4 2 16]),true,3,24,(.agg #[z0,z0,zb]),true⟩
def aFa:TI:=⟨(.slice 104),false,1,24,zs,false⟩
def aBw:TI:=⟨(.struct #[fD "Id" 3 0 0,fD "Event" 3 1 8,fD "From" 3 2 16,fD "To" 3 3 24]),true,4,32,(.agg ⟨List.replicate 4 z0⟩),true⟩
def aFb:TI:=⟨(.slice 106),false,1,24,zs,false⟩
def aFc:TI:=⟨(.slice 108),false,1,24,zs,false⟩
def aBx:TI:=⟨(.struct #[fD "Kind" 3 0 0,fD "Event" 3 1 8,fD "By" 3 2 16,fD "Step" 3 3 24]),true,4,32,(.agg ⟨List.replicate 4 z0⟩),true⟩
def aBy:TI:=⟨(.slice 50),false,1,24,zs,false⟩
def aFd:TI:=⟨(.struct #[fD "Event" 3 0 0,fD "Part" 3 1 8,fD "Of" 3 2 16,fD "Kind" 3 3 24,fD "On" 3 4 32,fD "OnPart" 3 5 40,fD "Quote" 3 6 48,fD "Who" 3 7 56,fD "N" 3 8 64,fD "Text" 9 9 72,fD "Files" 25 10 88]),true,11,112,(.agg #[z0,z0,z0,z0,z0,z0,z0,z0,z0,(.string ⟨#[]⟩),zs]),false⟩
def aFe:TI:=⟨(.slice 275),false,1,24,zs,false⟩
def ti5:TI:=⟨(.int .u8),false,1,1,(.int .u8 0),false⟩
def aBz:TI:=⟨(.int .i64),false,1,8,z0,false⟩
def aC0:TI:=⟨(.int .u32),false,1,4,(.int .u32 0),false⟩
def aC1:TI:=⟨(.struct #[⟨ "events",31,0,false,"","lingua/conv",0⟩,⟨ "own",315,1,false,"","lingua/conv",24⟩,⟨ "deleted",152,2,false,"","lingua/conv",32⟩]),true,3,40,(.agg #[zs,(.map none),(.map none)]),false⟩
def aC2:TI:=⟨(.map 3 25),false,1,8,(.map none),false⟩
def aC3:TI:=⟨(.struct #[fD "A" 3 0 0,fD "B" 3 1 8]),true,2,16,(.agg #[z0,z0]),true⟩
def aC4:TI:=⟨(.slice 326),false,1,24,zs,false⟩
def aC5:TI:=⟨(.pointer 166),false,1,8,(.pointer none),false⟩
def aC6:TI:=⟨(.struct #[fD "Event" 3 0 0,fD "Box" 3 1 8,fD "Hold" 3 2 16]),true,3,24,(.agg ⟨List.replicate 3 z0⟩),true⟩
def aC7:TI:=⟨(.struct #[⟨ "p",56,0,false,"","lingua/forth",0⟩,⟨ "ways",167,22,false,"","lingua/forth",192⟩,⟨ "events",31,23,false,"","lingua/forth",216⟩,⟨ "bad",25,24,false,"","lingua/forth",240⟩]),true,25,264,(.agg #[(.string ⟨#[]⟩),z0,z0,z0,zb,z0,zb,zb,z0,z0,z0,z0,zs,z0,z0,z0,z0,zb,z0,z0,z0,z0,zs,zs,zs]),false⟩
def aC8:TI:=⟨(.int .u64),false,1,8,(.int .u64 0),false⟩
def aC9:TI:=⟨(.int .u64),false,1,8,(.int .u64 0),false⟩
def aCa:TI:=⟨(.map 372 3),false,1,8,(.map none),false⟩
def aCb:TI:=⟨(.struct #[⟨ "account",3,0,false,"","lingua/group",0⟩,⟨ "group",3,1,false,"","lingua/group",8⟩]),true,2,16,(.agg #[z0,z0]),true⟩
def aCc:TI:=⟨(.slice 367),false,1,24,zs,false⟩
def aCd:TI:=⟨(.struct #[fD "Account" 3 0 0,fD "Group" 3 1 8,fD "From" 3 2 16,fD "To" 3 3 24]),true,4,32,(.agg ⟨List.replicate 4 z0⟩),true⟩
def aCe:TI:=⟨(.pointer 317),false,1,8,(.pointer none),false⟩
def aCf:TI:=⟨(.struct #[⟨ "net",3,0,false,"","lingua/target",0⟩,⟨ "event",3,1,false,"","lingua/target",8⟩,⟨ "part",3,2,false,"","lingua/target",16⟩]),true,3,24,(.agg ⟨List.replicate 3 z0⟩),true⟩
def aCg:TI:=⟨(.map 363 4),false,1,8,(.map none),false⟩
def aCh:TI:=⟨(.map 411 4),false,1,8,(.map none),false⟩
def aCi:TI:=⟨(.struct #[⟨ "net",3,0,false,"","lingua/target",0⟩,⟨ "local",3,1,false,"","lingua/target",8⟩]),true,2,16,(.agg #[z0,z0]),true⟩
def aCj:TI:=⟨(.struct #[⟨ "message",3,0,false,"","lingua/levels",0⟩,⟨ "who",3,1,false,"","lingua/levels",8⟩]),true,2,16,(.agg #[z0,z0]),true⟩
def aCk:TI:=⟨(.map 3 25),false,1,8,(.map none),false⟩
def aCl:TI:=⟨(.struct #[⟨ "claims",23,0,false,"","lingua/rights",0⟩,⟨ "clauses",241,1,false,"","lingua/rights",24⟩,⟨ "has",152,2,false,"","lingua/rights",48⟩]),true,3,56,(.agg #[zs,zs,(.map none)]),false⟩
def aCm:TI:=⟨(.func #[3] #[] false),false,1,8,.nilFunc,false⟩
def ti2:TI:=⟨(.int .i64),false,1,8,z0,false⟩
def aCn:TI:=⟨(.array 24 5),true,24,24,(.agg ⟨List.replicate 24 (.int .u8 0)⟩),false⟩
def aCo:TI:=⟨(.slice 5),false,1,24,zs,false⟩
def aCp:TI:=⟨(.array 20 296),true,20,160,(.agg ⟨List.replicate 20 (.int .u64 0)⟩),false⟩
def aCq:TI:=⟨(.array 65 5),true,65,65,(.agg ⟨List.replicate 65 (.int .u8 0)⟩),false⟩
def aCr:TI:=⟨(.array 32 5),true,32,32,(.agg ⟨List.replicate 32 (.int .u8 0)⟩),false⟩
def aCs:TI:=⟨(.array 64 5),true,64,64,(.agg ⟨List.replicate 64 (.int .u8 0)⟩),false⟩
def aCt:TI:=⟨(.func #[113,110] #[45] false),false,1,8,.nilFunc,false⟩
def T:List (Nat×TI):=[(27,aEf),(4,ti4),(43,aEg),(45,aEh),(44,aEi),(3,ti3),(48,aEj),(52,aEk),(34,aEl),(33,aEm),(54,aEn),(31,aEo),(22,aEp),(9,ti9),(56,aEq),(64,aEr),(32,aEs),(66,aEt),(68,aEu),(83,aEv),(84,aEw),(74,aEx),(77,aEy),(25,aEz),(92,aF0),(93,aF1),(28,aF2),(110,aB1),(23,aF3),(24,aF4),(123,aB2),(118,aB3),(132,aB4),(61,aF5),(143,aB5),(141,aB6),(151,aB7),(152,aB8),(154,aB9),(98,aF6),(37,aF7),(166,aBa),(163,aBb),(164,aBc),(172,aBd),(181,aBe),(182,aBf),(189,aBg),(193,aBh),(196,aBi),(200,aBj),(205,aBk),(36,aF8),(206,aBl),(208,aBm),(212,aBn),(167,aBo),(215,aBp),(300,aBq),(35,aF9),(225,aBr),(100,aBs),(237,aBt),(102,aBu),(104,aBv),(38,aFa),(106,aBw),(39,aFb),(40,aFc),(108,aBx),(259,aBy),(50,aFd),(41,aFe),(5,ti5),(287,aBz),(294,aC0),(317,aC1),(315,aC2),(326,aC3),(241,aC4),(113,aC5),(275,aC6),(350,aC7),(356,aC8),(296,aC9),(370,aCa),(372,aCb),(311,aCc),(367,aCd),(228,aCe),(363,aCf),(408,aCg),(409,aCh),(411,aCi),(383,aCj),(387,aCk),(441,aCl),(252,aCm),(2,ti2),(459,aCn),(461,aCo),(466,aCp),(467,aCq),(471,aCr),(472,aCs),(170,aCt)]
theorem OS:Tryz.prog.follows .mixedOrders=true:=V
theorem EX:iM Tryz.prog T:=⟨tk,tk,tk,tk,tk,tk,tk,tk,tk,tk,tk,tk,tk,tk,tk,tk,tk,tk,tk,tk,tk,tk,tk,tk,tk,tk,tk,tk,tk,tk,tk,tk,tk,tk,tk,tk,tk,tk,tk,tk,tk,tk,tk,tk,tk,tk,tk,tk,tk,tk,tk,tk,tk,tk,tk,tk,tk,tk,tk,tk,tk,tk,tk,tk,tk,tk,tk,tk,tk,tk,tk,tk,tk,tk,tk,tk,tk,tk,tk,tk,tk,tk,tk,tk,tk,tk,tk,tk,tk,tk,tk,tk,tk,tk,tk,tk,tk,tk,tk,tk,tk,tk,tk,tk,tk,tk,OS⟩
abbrev cC (f:FuncId) (args:List AV) (os:List AO) (r:AV):Prop:=j8 Tryz.prog f args os r
abbrev cA (f:FuncId) (args:List AV) (r:AV):Prop:=R8 Tryz.prog f args r
abbrev cM (f:FuncId) (al:Bool) (ins:List AO) (args:List AV) {Y:Type} (c:Y->Prop) (a os:Y->List AO) (r:Y->AV):Prop:=tC Tryz.prog f al ins args c a os r
theorem hZ {f:FuncId} {fn:Func} {c:Code} {args:List AV} {os:List AO} {r:AV} (j:Tryz.prog.funcs[f]? =some fn) (res:List ResultVar) (a:List (Nat×List Gh))
  (h:uR Tryz.prog T fn.ntmps 0 a c ⟨lz 0 args,[],0⟩ (Oq fn.ntmps a T res (RetIs os r))) (g:fn.body=some c:=by rfl) (l:(fn.name== "runtime.NumGoroutine")=false:=by kernel_rfl) (n:fn.results=res.toArray:=by rfl) (e:Nat.ble args.length fn.ntmps=true:=by rfl) (k:yR a c=true:=by kernel_rfl):j8 Tryz.prog f args os r:=Ou EX j l g rfl n e a h k
theorem MX {f:FuncId} {fn:Func} {c:Code} {args:List AV} {r:AV} (j:Tryz.prog.funcs[f]? =some fn) (res:List ResultVar) (a:List (Nat×List Gh))
  (h:uR Tryz.prog T fn.ntmps 0 a c ⟨lz 0 args,[],0⟩ (Oq fn.ntmps a T res (RetA r))) (g:fn.body=some c:=by rfl) (l:(fn.name== "runtime.NumGoroutine")=false:=by kernel_rfl) (n:fn.results=res.toArray:=by rfl) (e:Nat.ble args.length fn.ntmps=true:=by rfl) (k:yR a c=true:=by kernel_rfl):R8 Tryz.prog f args r:=Ih EX j l g rfl n e a h k
theorem sE {f:FuncId} {fn:Func} {c:Code} {al:Bool} {ins:List AO} {args:List AV} {Y:Type} {g:Y->Prop} {os:Y->List AO} {r:Y->AV} {e:Y->List AO} (l:Tryz.prog.funcs[f]? =some fn) (res:List ResultVar) (a:List (Nat×List Gh))
  (h:uR Tryz.prog T fn.ntmps ins.length a c ⟨lz 0 args,Y7 0 ins,ins.length⟩ (Oq fn.ntmps a T res (RetM al ins.length g e os r))) (k:fn.body=some c:=by rfl) (q:(fn.name== "runtime.NumGoroutine")=false:=by kernel_rfl) (t:fn.results=res.toArray:=by rfl) (j:Nat.ble args.length fn.ntmps=true:=by rfl) (n:yR a c=true:=by kernel_rfl):tC Tryz.prog f al ins args g e os r:=Ii EX l q k rfl t al ins _ _ _ _ j a h n
end Go.Proofs.YtpnjmojpeaegoaaGreatDoor
namespace Go.Proofs.YtpnjmojpeaegoaaGreatDoor.Sb
def OT (n:Int) (c:Cl_q1):Bool:=(decide (0<=c.a)&&decide (c.a<2*n))&&(decide (0<=c.b)&&decide (c.b<2*n))
def aGw (l:List Cl_q1) (n:Int):Bool:=((decide (0<=n)&&decide (n<=400))&&decide (l.length<=4000))&&l.all (OT n)
structure RightP (l:List Cl_q1) (n:Int):Prop where
 lo:0<=n
 hi:n<=400
 len:l.length<=4000
 cl:lN n l
theorem s8 {l:List Cl_q1} {n:Int}:aGw l n=true↔RightP l n:=by
 unfold aGw OT;simp only[aW,aM,fU];constructor
 ·rintro⟨⟨⟨a,c⟩,e⟩,f⟩;exact⟨a,c,e,f⟩
 ·rintro⟨a,c,e,f⟩;exact⟨⟨⟨a,c⟩,e⟩,f⟩
def after:Nat->Nat->List Bool
 |0,_=>[]
 |n+1,k=>after n (k/2)++[decide (k % 2=1)]
theorem zi: ∀n k,(after n k).length=n
 |0,_=>rfl
 |n+1,k=>by simp[after,zi n]
def G4 (a:List Bool):Nat:=a.foldl (λk b=>2*k+(if b then 1 else 0)) 0
theorem E0 (a:List Bool) (b:Bool):G4 (a++[b])=2*G4 a+(if b then 1 else 0):=by unfold G4;rw[iQ];rfl
theorem Di {a:List Bool} {n:Nat} (h:a.length=n+1): ∃us b,a=us++[b]/\us.length=n:=by refine⟨a.dropLast,a.getLast (by intro e;rw[e] at h;cases h),(pG _).symm,by rw[List.length_dropLast,h];rfl⟩
theorem ii: ∀(n:Nat) (a:List Bool),a.length=n->after n (G4 a)=a/\G4 a<2^n
 |0,a,h=>by obtain rfl:=fA h;exact⟨rfl,jD⟩
 |n+1,a,h=>by
  obtain⟨c,b,rfl,g⟩:=Di h;obtain⟨f,j⟩:=ii n c g;rw[E0];unfold after;have l:2^(n+1)=2*2^n:=by rw[Nat.pow_succ,iR]
  cases b with
  |true=>have e:(2*G4 c+1)/2=G4 c:=J;simp only[uS,e,f];refine⟨by congr 2;simp,J⟩
  |false=>have e:(2*G4 c+0)/2=G4 c:=J;simp only[pL,zO,e,f];refine⟨jS,J⟩
theorem zj: ∀(n k:Nat),k<2^n->G4 (after n k)=k
 |0,k,h=>by
  have:k=0:=jH
  rw[this];rfl
 |n+1,k,h=>by
  have c:2^(n+1)=2*2^n:=by rw[Nat.pow_succ,iR]
  unfold after;rw[E0,zj n (k/2) J];by_cases a:k % 2=1
  ·rw[gH a,aE rfl];omega
  ·rw[gZ a,aB jD];omega
theorem It: ∀(n:Nat) (a b:List Bool),a.length=n->b.length=n-> ∀u,u<n->(∀w,w<u->a.getD w false=b.getD w false)->a.getD u false=false->b.getD u false=true->G4 a<G4 b
 |0,_,_,_,_,u,K,_,_,_=>J
 |n+1,a,b,G,H,u,K,A,q,t=>by
  obtain⟨h,x,rfl,e⟩:=Di G;obtain⟨j,y,rfl,f⟩:=Di H;rw[E0,E0];have g: ∀(c:List Bool) (z:Bool),c.length=n-> ∀w,w<n->(c++[z]).getD w false=c.getD w false:=λc z L w C=>by rw[xP,aE J]
  by_cases l:u<n
  ·have:=It n h j e f u l (λw C=>by
    have:=A w C
    rwa [g h x e w J,g j y f w J] at this) (by rwa [g h x e u l] at q) (by rwa [g j y f u l] at t)
   split<;>split<;>omega
  ·obtain rfl:u=n:=J;have D:h=j:=by refine iV (e.trans f.symm) λw E F=> ?_;have:=A w J;rw[g h x e w J,g j y f w J] at this;simpa [List.getD,E,F] using this
   rw[xP,aB J,aE e.symm] at q;rw[xP,aB J,aE f.symm] at t;subst q t D;simp
def Ui (l:List Cl_q1) (n:Nat) (e:List Int) (vals:List Bool):Bool:=(decide (vals.length=n)&&l.all λc=>tv vals c.a||tv vals c.b)&&e.all (tv vals)
theorem ij {l:List Cl_q1} {n:Nat} {a:List Int} {vals:List Bool}:Ui l n a vals=true↔Good l n a vals:=by unfold Ui;simp only[aW,aM,fU,eZ];exact⟨λh=>⟨h.1.1,h.1.2,h.2⟩,λh=>⟨⟨h.1,h.2⟩,h.3⟩⟩
theorem sq {α:Type} (f:Nat->α) (p:α->Bool): ∀m:Nat,(∃k,k<m/\p (f k)=true/\(∀j,j<k->p (f j)=false)/\((List.range m).map f).find? p=some (f k))\/((∀j,j<m->p (f j)=false)/\((List.range m).map f).find? p=none)
 |0=> .inr ⟨λj h=>J,rfl⟩
 |m+1=>by
  rw[iN,fJ,List.find?_append];rcases sq f p m with ⟨k,c,e,g,l⟩|⟨c,e⟩
  ·exact .inl ⟨k,J,e,g,by rw[l];rfl⟩
  ·rw[e];cases a:p (f m) with
   |true=>exact .inl ⟨m,J,a,c,by simp[a]⟩
   |false=>
    refine .inr ⟨λj n=> ?_,by simp[a]⟩;by_cases h:j<m
    ·exact c j h
    ·obtain rfl:j=m:=J;exact a
def pM (l:List Cl_q1) (n:Nat) (a:List Int):Option (List Bool):=((List.range (2^n)).map (after n)).find? (Ui l n a)
theorem zk (l:List Cl_q1) (n:Nat) (a:List Int):(∃j,pM l n a=some j/\IsFirst l n a j)\/(pM l n a=none/\ ¬ ∃vals,Good l n a vals):=by
 rcases sq (after n) (Ui l n a) (2^n) with ⟨k,e,f,q,t⟩|⟨e,f⟩
 ·refine .inl ⟨after n k,t,ij.1 f,λu z x vals g w=> ?_⟩;cases A:vals.getD u false with
  |true=>rfl
  |false=>obtain⟨c,h⟩:=ii n vals g.len;have:=It n vals (after n k) g.len (zi n k) u z w A x;rw[zj n k e] at this;have:=q _ this;rw[c,ij.2 g] at this;cases this
 ·refine .inr ⟨f,λ⟨vals,g⟩=> ?_⟩;obtain⟨c,h⟩:=ii n vals g.len;have:=e _ h;rw[c,ij.2 g] at this;cases this
theorem K1 {l:List Cl_q1} {n:Nat} {c:List Int} {g:List Bool}:pM l n c=some g↔IsFirst l n c g:=by
 rcases zk l n c with ⟨v,f,a⟩|⟨f,a⟩
 ·rw[f];exact⟨λe=>by rw[<-cK e];exact a,λh=>by rw[a.unique h]⟩
 ·rw[f];exact⟨λe=>(by cases e),λh=>absurd ⟨g,h.good⟩ a⟩
theorem x3 {l:List Cl_q1} {n:Nat} {a:List Int}:pM l n a=none↔ ¬ ∃vals,Good l n a vals:=by
 constructor
 ·intro e;rcases zk l n a with ⟨v,c,f⟩|⟨c,f⟩
  ·rw[c] at e;cases e
  ·exact f
 ·intro h;cases e:pM l n a with
  |none=>rfl
  |some g=>exact absurd ⟨g,(K1.1 e).good⟩ h
def sr (n:Int) (a:List Int):Bool:=a.all λx=>decide (0<=x)&&decide (x<2*n)
theorem Pc {n:Int} {a:List Int}:sr n a=true↔ ∀x∈a,0<=x/\x<2*n:=by unfold sr;simp only[fU,aW,aM]
def lY (l:List Cl_q1) (n:Int) (a:List Int):Bool:=aGw l n&&(sr n a&&(pM l n.toNat (a.map wZ)).isNone)
def WT (l:List Cl_q1) (n:Nat):Prop:= ∃a,Good l n [] a
structure SolveY where
 vals:List Bool
 cyc:List Int
 err:Int
structure SolveS (l:List Cl_q1) (n:Int) (y:SolveY):Prop where
 bad:aGw l n=false->y=⟨[],[],1⟩
 sat: ∀vs,aGw l n=true->pM l n.toNat []=some vs->y=⟨vs,[],0⟩
 uns:aGw l n=true->pM l n.toNat []=none->y.vals=[]/\y.err=17/\WS l n y.cyc=true
theorem SolveS.ok {l:List Cl_q1} {n:Int} {y:SolveY} (h:SolveS l n y) (c:aGw l n=true):(y.err=0↔WT l n.toNat)/\(y.err=17↔ ¬WT l n.toNat):=by
 unfold WT;cases e:pM l n.toNat [] with
 |none=>obtain⟨_,f,_⟩:=h.uns c e;have:=x3.1 e;rw[f];exact⟨⟨λh=>J,λh=>absurd h this⟩,⟨λ_=>this,λ_=>rfl⟩⟩
 |some a=>have g:=h.sat a c e;have:=(K1.1 e).good;rw[g];exact⟨⟨λ_=>⟨a,this⟩,λ_=>rfl⟩,⟨λh=>jC,λh=>absurd ⟨a,this⟩ h⟩⟩
theorem RightP.append {l m:List Cl_q1} {n:Int} (h:RightP l n) (f:lN n m) (a:l.length+m.length<=4000):RightP (l++m) n:=
 ⟨h.lo,h.hi,by rw[bD];exact a,λc e=>(cR.1 e).elim (h.cl c) (f c)⟩
section
variable {l : List Cl_q1} {n : Int} {d : List Bool} {v : Nat}
end
structure Cm where
 acc:Int
 per:Int
structure Pf_q1 where
 kind:Int
 a:Int
 b:Int
def dCm:Cm:=⟨0,0⟩
def Uj:Pf_q1:=⟨0,0,0⟩
theorem Cm.ext' {c d:Cm} (a:c.acc=d.acc) (e:c.per=d.per):c=d:=by cases c;cases d;simp at a e;rw[a,e]
def WU (c:Cm):Bool:=(decide (0<=c.acc)&&decide (c.acc<2000))&&(decide (0<=c.per)&&decide (c.per<2000))
def EY (c d:Cm):Bool:=decide (c.acc=d.acc)&&decide (c.per=d.per)
theorem su {c d:Cm}:EY c d=true↔c=d:=by unfold EY;rw[aW,aM,aM];exact⟨λh=>Cm.ext' h.1 h.2,λh=>by rw[h];exact nT⟩
def G5 (C:List Cm) (c:Cm) (k:Nat):Bool:=(List.range k).any λi=>EY (C.getD i dCm) c
def WV (n:Nat) (p:Pf_q1):Bool:=((decide (0<=p.kind)&&decide (p.kind<5))&&(decide (0<=p.a)&&decide (p.a<n)))&&((decide (0<=p.b)&&decide (p.b<n))&&(!(decide (p.kind=0)||decide (p.kind=1))||decide (p.b=0)))
def rightCP (C:List Cm) (P:List Pf_q1):Bool:=((decide (C.length<=200)&&decide (P.length<=400))&&(List.range C.length).all λk=>WU (C.getD k dCm)&& !G5 C (C.getD k dCm) k)&&P.all (WV C.length)
structure RightCP (C:List Cm) (P:List Pf_q1):Prop where
 lc:C.length<=200
 lp:P.length<=400
 cm: ∀k,k<C.length->(0<=(C.getD k dCm).acc/\(C.getD k dCm).acc<2000)/\(0<=(C.getD k dCm).per/\(C.getD k dCm).per<2000)
 nd: ∀k i,k<C.length->i<k->C.getD i dCm≠C.getD k dCm
 pf: ∀p∈P,((0<=p.kind/\p.kind<5)/\(0<=p.a/\p.a<C.length))/\((0<=p.b/\p.b<C.length)/\(p.kind=0\/p.kind=1->p.b=0))
theorem Uk {n:Nat} {p:Pf_q1}:WV n p=true↔((0<=p.kind/\p.kind<5)/\(0<=p.a/\p.a<n))/\((0<=p.b/\p.b<n)/\(p.kind=0\/p.kind=1->p.b=0)):=by
 unfold WV;simp only[aW,aM,eZ,dQ,bT,bH];constructor
 ·rintro⟨⟨c,e⟩,f,g⟩;exact⟨⟨c,e⟩,f,λh=>g.resolve_left λk=>h.elim k.1 k.2⟩
 ·rintro⟨⟨c,e⟩,f,g⟩;refine⟨⟨c,e⟩,f,?_⟩;by_cases j:p.kind=0\/p.kind=1
  ·exact .inr (g j)
  ·exact .inl ⟨λh=>j (.inl h),λh=>j (.inr h)⟩
theorem wB {C:List Cm} {P:List Pf_q1}:rightCP C P=true↔RightCP C P:=by
 unfold rightCP WU G5;simp only[aW,aM,fU,fO,dQ,fH,su,Uk];constructor
 ·rintro⟨⟨⟨e,f⟩,c⟩,g⟩;exact⟨e,f,λk a=>(c k a).1,λk i a h=>(c k a).2 i h,g⟩
 ·rintro⟨e,f,c,g,j⟩;exact⟨⟨⟨e,f⟩,λk a=>⟨c k a,λi h=>g k i a h⟩⟩,j⟩
def kP (p:Pf_q1):Cl_q1:=
 if p.kind=0 then⟨2*p.a,2*p.a⟩ else if p.kind=1 then⟨2*p.a+1,2*p.a+1⟩ else if p.kind=2 then⟨2*p.a,2*p.b⟩ else if p.kind=3 then⟨2*p.a+1,2*p.b+1⟩ else⟨2*p.a+1,2*p.b⟩
def pV (C:List Cm) (k m:Nat):List Cl_q1:=(List.range m).flatMap λi=>if(C.getD k dCm).acc=(C.getD i dCm).acc then [⟨2*(i:Int)+1,2*(k:Int)+1⟩] else []
def pN (C:List Cm) (n:Nat):List Cl_q1:=(List.range n).flatMap λk=>pV C k k
theorem K3 (C:List Cm) (k m:Nat):pV C k (m+1)=pV C k m++(if(C.getD k dCm).acc=(C.getD m dCm).acc then [⟨2*(m:Int)+1,2*(k:Int)+1⟩] else []):=by unfold pV;rw[iN,oX];simp
theorem sw (C:List Cm) (n:Nat):pN C (n+1)=pN C n++pV C n n:=by unfold pN;rw[iN,oX];simp
theorem Pd {C:List Cm} {k m:Nat} {c:Cl_q1}:c∈pV C k m↔ ∃i,i<m/\(C.getD k dCm).acc=(C.getD i dCm).acc/\c=⟨2*(i:Int)+1,2*(k:Int)+1⟩:=by
 unfold pV;simp only[xJ,fO];constructor
 ·rintro⟨i,a,h⟩;split at h
  ·rename_i e;exact⟨i,a,e,jH⟩
  ·simp at h
 ·rintro⟨i,a,e,rfl⟩;exact⟨i,a,by rw[aE e];simp⟩
theorem Xv {C:List Cm} {n:Nat} {c:Cl_q1}:c∈pN C n↔ ∃k i,k<n/\i<k/\(C.getD k dCm).acc=(C.getD i dCm).acc/\c=⟨2*(i:Int)+1,2*(k:Int)+1⟩:=by
 unfold pN;simp only[xJ,fO,Pd];constructor
 ·rintro⟨k,g,i,f,a,e⟩;exact⟨k,i,g,f,a,e⟩
 ·rintro⟨k,i,g,f,a,e⟩;exact⟨k,g,i,f,a,e⟩
theorem U0 (C:List Cm) (k:Nat): ∀m,(pV C k m).length<=m
 |0=>by simp[pV]
 |m+1=>by have:=U0 C k m;rw[K3,bD];split<;>simp<;>omega
theorem zl (C:List Cm) (b:Nat): ∀n,n<=b->(pN C n).length<=n*b
 |0,_=>by simp[pN]
 |n+1,h=>by have:=zl C b n J;have:=U0 C n n;rw[sw,bD,fV];omega
theorem Iu (C:List Cm) (n:Nat):lN (n:Int) (pN C n):=by intro c a;obtain⟨k,i,f,e,_,rfl⟩:=Xv.1 a;constructor<;>constructor<;>dsimp only<;>omega
theorem sx {n:Nat} {p:Pf_q1} (h:((0<=p.kind/\p.kind<5)/\(0<=p.a/\p.a<(n:Int)))/\((0<=p.b/\p.b<(n:Int))/\(p.kind=0\/p.kind=1->p.b=0))):(0<=(kP p).a/\(kP p).a<2*(n:Int))/\0<=(kP p).b/\(kP p).b<2*(n:Int):=by
 obtain⟨⟨_,c⟩,e,_⟩:=h;unfold kP
 repeat' split
 all_goals (dsimp only;omega)
def fP (C:List Cm) (P:List Pf_q1):List Cl_q1:=pN C C.length++P.map kP
def clausesY (C:List Cm) (P:List Pf_q1):List Cl_q1×Int:=if rightCP C P=true then(if 4000<(fP C P).length then([],6) else(fP C P,0)) else([],1)
theorem K4 {C:List Cm} {P:List Pf_q1} (h:RightCP C P) (e:(fP C P).length<=4000):RightP (fP C P) C.length:=by
 have:=h.lc;refine⟨J,J,e,λc a=> ?_⟩;rcases cR.1 a with a|a
 ·exact Iu C _ c a
 ·obtain⟨p,f,rfl⟩:=fL.1 a;exact sx (h.pf p f)
def Pe (U:List Int->Bool) (left:List Int) (i:Int):List Int:=if U (left.filter λk=>decide (k≠i)) then left.filter λk=>decide (k≠i) else left
def E1 (U:List Int->Bool):Nat->List Int->List Int
 |0,left=>left
 |k+1,left=>E1 U k (Pe U left k)
def A6 (n:Nat):List Int:=(List.range n).map λk:Nat=>(k:Int)
theorem sy {n:Nat} {x:Int}:x∈A6 n↔0<=x/\x<n:=by
 unfold A6;simp only[fL,fO];constructor
 ·rintro⟨k,e,rfl⟩;exact⟨J,J⟩
 ·rintro⟨a,c⟩;exact⟨x.toNat,J,J⟩
section
variable {U : List Int -> Bool}
structure ConfS (U:List Int->Bool) (n:Nat) (c:List Int):Prop where
 rng: ∀x∈c,0<=x/\x<n
 asc:c.Pairwise (· < ·)
 u:U c
 min: ∀x∈c,¬U (c.filter λq=>decide (q≠x))
end
end Go.Proofs.YtpnjmojpeaegoaaGreatDoor.Sb
namespace Go.Proofs.YtpnjmojpeaegoaaGreatDoor.Sb
open Go.Eng
def aH5 (S:List Int):AO:= .mp S.length (λi=> .I (S.getD i 0)) (λ_=> .b true) (λi=>i) S.length
def aHd (S:List Int) (k:Int):List Int:=if k∈S then S else S++[k]
theorem pj {S:List Int} {k:Int} (h:k∉S):aHd S k=S++[k]:=aB h
theorem OU {S:List Int} {k:Int} (h:k∈S):aHd S k=S:=aE h
theorem Xw {S:List Int} {k:Int} (h:S.Nodup):(aHd S k).Nodup:=by
 unfold aHd;split
 ·exact h
 ·rename_i f;rw[iI];refine⟨h,jS,?_⟩;intro a e b c;simp at c;subst c;rintro rfl;exact f e
theorem E2 (L:List Int) (x:Int) (j:Nat):(L++[x]).getD j 0=if j<L.length then L.getD j 0 else if j=L.length then x else 0:=by
 exact m6
theorem E3 (S:List Int) (k:Int):k4 S.length (λi=> .I (S.getD i 0)) (λ_=> .b true) (.I k) (.b (decide (k∈S))) (.b false) (decide (k∈S)):=by
 by_cases h:k∈S
 ·rw[gH h];obtain⟨i,a,e⟩:=tR h;exact⟨λ_=>⟨i,a,by dsimp only;rw[e],eV.refl _⟩,λh=>jC⟩
 ·rw[gZ h];refine⟨λh=>jC,λ_=>⟨λi a e=>h ?_,eV.refl _⟩⟩;have e:=sD _ _ e;rw[<-e];exact tQ a
theorem zm (S:List Int) (k:Int):yh S.length (λi=> .I (S.getD i 0)) (λ_=> .b true) (λi=>i) S.length (.I k) (.b true) (aHd S k).length (λi=> .I ((aHd S k).getD i 0)) (λ_=> .b true) (λi=>i) (aHd S k).length:=by
 by_cases h:k∈S
 ·rw[OU h];obtain⟨i,a,e⟩:=tR h;refine .inl ⟨i,a,by dsimp only;rw[e],rfl,rfl,λj c=>⟨rfl,rfl,?_⟩⟩;split<;>rfl
 ·rw[pj h];refine .inr ⟨λi a e=>h ?_,jS,jS,λj c=>⟨?_,rfl,rfl⟩,?_,rfl,rfl⟩
  ·have e:=sD _ _ e;rw[<-e];exact tQ a
  ·dsimp only;rw[E2,aE c]
  ·dsimp only;rw[E2,aB J,aE rfl]
end Go.Proofs.YtpnjmojpeaegoaaGreatDoor.Sb
